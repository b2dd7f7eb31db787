/- What holds of the world beside an evaluation, and how memory is read, written and made under it. No condition. -/
import Derived.Test.YtemggoaefohliaaAeB
import Derived.Laws.Cells
import Derived.Laws.World
namespace Go.Proofs.Ytemggoaefohliaa.AE
set_option linter.unusedVariables false
set_option linter.unusedSimpArgs false
open Go Go.RowKit

structure Inv (w0 : World) (B : Nat) (G : Gh) (S : St) (w : World) : Prop where
  below : Below B w0 w
  base : B ≤ w.heap.size
  imm : ∀ b o v, G.I b o = some v → w.cell? ⟨b, o, none⟩ = some v
  fr : ∀ t, G.fr t = S.T[t]?
  box : ∀ i bx, S.H[i]? = some bx → ∃ b vs, G.phi i = some b ∧ B ≤ b ∧ w.heap[b]? = some (.cells vs bx.ty (0, 0)) ∧ VRL G bx.cs vs.toList ∧ (∀ o, G.I b o = none) ∧
    (∀ x ∈ vs.toList, oneV x = true) ∧ (∀ x ∈ bx.cs, x.isCell = true) ∧ AV.sealedL bx.cs = true
  phid : ∀ i b, G.phi i = some b → i < S.H.length
  phij : ∀ i j b, G.phi i = some b → G.phi j = some b → i = j
  tok : ∀ t n, S.T[t]? = some n → ∃ b m vs ty fz, G.tau t = some (b, m) ∧ B ≤ b ∧ w.heap[b]? = some (.cells vs ty fz) ∧ m ≤ vs.size ∧ (∀ o, n ≤ o → G.I b o = none) ∧
    (∀ o, o < m → w.frozen? ⟨b, o, none⟩ = false) ∧ (∀ i, G.phi i ≠ some b)
  taud : ∀ t x, G.tau t = some x → t < S.T.length
  tauj : ∀ t u b m m', G.tau t = some (b, m) → G.tau u = some (b, m') → t = u

structure LInv (B : Nat) (G : Gh) (w : World) (dep : Nat) (b : Nat → Nat × List AV) : Prop where
  box : ∀ d, (b d).1 ≠ 0 → ∃ k vs ty, G.nu dep (b d).1 = some k ∧ B ≤ k ∧ w.heap[k]? = some (.cells vs ty (0, 0)) ∧ VRL G (b d).2 vs.toList ∧ (∀ o, G.I k o = none) ∧
    (∀ x ∈ vs.toList, oneV x = true) ∧ (∀ x ∈ (b d).2, x.isCell = true) ∧ (∀ i, G.phi i ≠ some k) ∧ (∀ t m, G.tau t ≠ some (k, m))
  inj : ∀ d e k, (b d).1 ≠ 0 → (b e).1 ≠ 0 → G.nu dep (b d).1 = some k → G.nu dep (b e).1 = some k → d = e

/-- from (G, w) on: what was known is known, what was not to be written stands -/
structure Ext (G : Gh) (w : World) (G' : Gh) (w' : World) : Prop where
  le : Gle G G'
  size : w.heap.size ≤ w'.heap.size
  phi : ∀ i b, G'.phi i = some b → G.phi i = some b ∨ w.heap.size ≤ b
  tau : ∀ t x, G'.tau t = some x → G.tau t = some x ∨ w.heap.size ≤ x.1
  I : ∀ b o v, G'.I b o = some v → G.I b o = some v ∨ w.heap.size ≤ b ∨ ∃ t m n, G.tau t = some (b, m) ∧ G.fr t = some n ∧ n ≤ o
  keep : ∀ b, b < w.heap.size → (∀ i, G.phi i ≠ some b) → (∀ t m, G.tau t ≠ some (b, m)) → w'.heap[b]? = w.heap[b]?

theorem Ext.refl (G : Gh) (w : World) : Ext G w G w := ⟨.refl G, Nat.le_refl _, fun _ _ h => .inl h, fun _ _ h => .inl h, fun _ _ _ h => .inl h, fun _ _ _ _ => rfl⟩
theorem Ext.trans {w0 : World} {B : Nat} {S : St} {G G1 G2 : Gh} {w w1 w2 : World} (hi : Inv w0 B G S w) (h : Ext G w G1 w1) (k : Ext G1 w1 G2 w2) : Ext G w G2 w2 where
  le := h.le.trans k.le
  size := Nat.le_trans h.size k.size
  phi i b e := by
    rcases k.phi i b e with e | e
    · exact h.phi i b e
    · exact .inr (Nat.le_trans h.size e)
  tau t x e := by
    rcases k.tau t x e with e | e
    · exact h.tau t x e
    · exact .inr (Nat.le_trans h.size e)
  I b o v e := by
    rcases k.I b o v e with e | e | ⟨t, m, n, e1, e2, e3⟩
    · exact h.I b o v e
    · exact .inr (.inl (Nat.le_trans h.size e))
    · rcases h.tau t _ e1 with e4 | e4
      · have ht := hi.taud t _ e4
        have hf : G.fr t = some (S.T[t]) := by rw [hi.fr]; simp [ht]
        obtain ⟨n', e5, e6, _⟩ := h.le.fr t _ hf
        rw [e2] at e5
        cases e5
        exact .inr (.inr ⟨t, m, _, e4, hf, by omega⟩)
      · exact .inr (.inl e4)
  keep b hb h1 h2 := by
    have e := h.keep b hb h1 h2
    rw [← e]
    refine k.keep b (Nat.lt_of_lt_of_le hb h.size) (fun i e => ?_) (fun t m e => ?_)
    · rcases h.phi i b e with e | e
      · exact h1 i e
      · omega
    · rcases h.tau t _ e with e | e
      · exact h2 t m e
      · simp at e; omega

theorem LInv.ext {B : Nat} {G G' : Gh} {w w' : World} {dep : Nat} {b : Nat → Nat × List AV} (h : LInv B G w dep b) (e : Ext G w G' w') : LInv B G' w' dep b where
  box d hd := by
    obtain ⟨k, vs, ty, h1, h2, h3, h4, h5, h6, h7, h8, h9⟩ := h.box d hd
    have hk : k < w.heap.size := by
      rcases Nat.lt_or_ge k w.heap.size with h' | h'
      · exact h'
      · simp [Array.getElem?_eq_none h'] at h3
    refine ⟨k, vs, ty, e.le.nu _ _ _ h1, h2, by rw [e.keep k hk h8 h9]; exact h3, h4.mono e.le, fun o => ?_, h6, h7, fun i hi => ?_, fun t m hm => ?_⟩
    · cases hI : G'.I k o with
      | none => rfl
      | some v =>
        rcases e.I k o v hI with h' | h' | ⟨t, m, n, h', _, _⟩
        · rw [h5 o] at h'; cases h'
        · omega
        · exact absurd h' (h9 t m)
    · rcases e.phi i k hi with h' | h'
      · exact h8 i h'
      · omega
    · rcases e.tau t _ hm with h' | h'
      · exact h9 t m h'
      · simp at h'; omega
  inj d f k hd hf e1 e2 := by
    obtain ⟨k1, _, _, h1, _⟩ := h.box d hd
    obtain ⟨k2, _, _, h2, _⟩ := h.box f hf
    have a1 := e.le.nu _ _ _ h1
    have a2 := e.le.nu _ _ _ h2
    rw [e1] at a1; cases a1
    rw [e2] at a2; cases a2
    exact h.inj d f k hd hf h1 h2

/-! ### the world -/
theorem lt_of_heap {w : World} {k : Nat} {o : Obj} (h : w.heap[k]? = some o) : k < w.heap.size := by
  rcases Nat.lt_or_ge k w.heap.size with h' | h'
  · exact h'
  · simp [Array.getElem?_eq_none h'] at h
theorem cell_of_heap {w : World} {k o : Nat} {vs : Array Value} {ty : TypeId} {fz : Nat × Nat} (h : w.heap[k]? = some (.cells vs ty fz)) : w.cell? ⟨k, o, none⟩ = vs[o]? := by
  simp [World.cell?, h]
theorem frozen_of_heap {w : World} {k o : Nat} {vs : Array Value} {ty : TypeId} (h : w.heap[k]? = some (.cells vs ty (0, 0))) : w.frozen? ⟨k, o, none⟩ = false := by
  simp [World.frozen?, h]
theorem add_none (b o n : Nat) : (⟨b, o, none⟩ : Addr).add n = ⟨b, o + n, none⟩ := by
  unfold Addr.add
  split
  · rename_i h; subst h; rfl
  · rfl

theorem run_loadCells_at (P : Program) (w : World) (b o : Nat) (vs : List Value) (h : ∀ j v, vs[j]? = some v → w.cell? ⟨b, o + j, none⟩ = some v) :
    (loadCells ⟨b, o, none⟩ vs.length).run P w = .ok vs.toArray w :=
  run_loadCells_list w _ vs fun j v hj => by rw [add_none]; exact h j v hj
theorem run_underlying' (P : Program) (w : World) (t : TypeId) (d : TypeDesc) (h : P.underlying t = some d) : (underlying t).run P w = .ok d w := by
  simp [underlying, h]
theorem run_isAgg' (P : Program) (w : World) (t : TypeId) (h : (P.underlying t).isSome) : (isAgg t).run P w = .ok (aggQ P t) w := by
  obtain ⟨d, hd⟩ := Option.isSome_iff_exists.1 h
  unfold isAgg
  simp only [Sem.run_bind, run_underlying' P w t d hd, Result.andThen_ok, aggQ, hd]
  cases d <;> rfl
theorem info_of_underlying {P : Program} {t : TypeId} (h : (P.underlying t).isSome) : ∃ i, P.info? t = some i := by
  unfold Program.underlying at h
  cases hi : P.info? t with
  | none => simp [hi] at h
  | some i => exact ⟨i, rfl⟩
theorem run_sizeOf' (P : Program) (w : World) (t : TypeId) (i : TypeInfo) (h : P.info? t = some i) : (sizeOf t).run P w = .ok (P.cellsOf t) w := by
  simp [sizeOf, typeInfo, h, Program.cellsOf]

/-- cells of the world that stand for these -/
def Cells (G : Gh) (w : World) (cs : List AV) (b o : Nat) : Prop := ∃ vs, VRL G cs vs ∧ ∀ j v, vs[j]? = some v → w.cell? ⟨b, o + j, none⟩ = some v

theorem Cells.of_imm {w0 : World} {B : Nat} {G : Gh} {S : St} {w : World} (hi : Inv w0 B G S w) {cs : List AV} {b o : Nat} (h : VRI G cs b o) : Cells G w cs b o := by
  obtain ⟨vs, h1, h2⟩ := h.vals
  exact ⟨vs, h1, fun j v hj => hi.imm _ _ _ (h2 j v hj)⟩
theorem Cells.of_heap {G : Gh} {w : World} {k : Nat} {vs : Array Value} {ty : TypeId} {fz : Nat × Nat} (h : w.heap[k]? = some (.cells vs ty fz)) {cs : List AV} (hr : VRL G cs vs.toList) (off : Nat) :
    Cells G w (cs.drop off) k off :=
  ⟨vs.toList.drop off, hr.drop off, fun j v hj => by rw [cell_of_heap h]; simpa using hj⟩

theorem rdc_load {P : Program} {G : Gh} {w : World} {t : TypeId} {cs : List AV} {b o : Nat} {r : AV} (hu : (P.underlying t).isSome) (h : Cells G w cs b o)
    (hr : rdc (aggQ P t) (P.cellsOf t) cs = some r) : ∃ v, (loadVar t ⟨b, o, none⟩).run P w = .ok v w ∧ VR G r v := by
  obtain ⟨vs, h1, h2⟩ := h
  obtain ⟨i, hi⟩ := info_of_underlying hu
  unfold rdc at hr
  unfold loadVar
  simp only [Sem.run_bind, run_isAgg' P w t hu, Result.andThen_ok]
  cases ha : aggQ P t with
  | true =>
    simp only [ha, if_true] at hr
    split at hr
    · rename_i hle
      cases hr
      have hlen := h1.length
      have hl : (vs.take (P.cellsOf t)).length = P.cellsOf t := by simp; omega
      have := run_loadCells_at P w b o (vs.take (P.cellsOf t)) fun j v hj => by
        rw [List.getElem?_take] at hj
        split at hj
        · exact h2 j v hj
        · cases hj
      rw [hl] at this
      simp only [if_true, Sem.run_bind, run_sizeOf' P w t i hi, Result.andThen_ok, this, Sem.run_pure]
      exact ⟨_, rfl, .agg _ _ (by simpa using h1.take _)⟩
    · cases hr
  | false =>
    simp only [ha, Bool.false_eq_true, if_false] at hr
    cases cs with
    | nil => cases hr
    | cons c cs =>
      simp at hr
      subst hr
      cases h1 with
      | cons _ v _ m hv _ =>
        have := h2 0 v (by simp)
        simp only [Nat.add_zero] at this
        simp only [Bool.false_eq_true, if_false, run_load, this]
        exact ⟨v, rfl, hv⟩

/-! ### stores -/
theorem oneV_oneCell (v : Value) : oneV v = v.oneCell' := by cases v <;> rfl
theorem run_store_at (P : Program) (w : World) (b o : Nat) (v : Value) (hv : oneV v = true) {u : Value} (hc : w.cell? ⟨b, o, none⟩ = some u) (hf : w.frozen? ⟨b, o, none⟩ = false) :
    (store ⟨b, o, none⟩ v).run P w = .ok () (w.setCell ⟨b, o, none⟩ v) := by
  rw [run_store P w _ v .plain (by rw [← oneV_oneCell]; exact hv)]
  simp [hc, hf]
/-- the cells from o on, one by one -/
def setL (b : Nat) : Nat → List Value → World → World
  | _, [], w => w
  | o, v :: l, w => setL b (o + 1) l (w.setCell ⟨b, o, none⟩ v)
theorem run_storeCells_at (P : Program) (b o : Nat) : ∀ (vs : List Value) (i : Nat) (w : World), (∀ x ∈ vs, oneV x = true) → (∀ j, j < vs.length → (w.cell? ⟨b, o + i + j, none⟩).isSome = true) →
    (∀ j, j < vs.length → w.frozen? ⟨b, o + i + j, none⟩ = false) → (storeCells ⟨b, o, none⟩ vs i).run P w = .ok () (setL b (o + i) vs w)
  | [], i, w, _, _, _ => rfl
  | v :: l, i, w, h1, h2, h3 => by
    obtain ⟨u, hu⟩ := Option.isSome_iff_exists.1 (h2 0 (by simp))
    simp only [storeCells, Sem.run_bind, add_none, setL]
    rw [run_store_at P w b (o + i) v (h1 v (by simp)) hu (h3 0 (by simp))]
    simp only [Result.andThen_ok]
    have := run_storeCells_at P b o l (i + 1) (w.setCell ⟨b, o + i, none⟩ v) (fun x hx => h1 x (by simp [hx])) (fun j hj => ?_) (fun j hj => ?_)
    · rw [show o + (i + 1) = o + i + 1 by omega] at this; exact this
    · have := h2 (j + 1) (by simp; omega)
      rw [World.cell?_setCell_other w _ _ _ (by simp; omega)]
      rwa [show o + i + (j + 1) = o + (i + 1) + j by omega] at this
    · rw [World.frozen?_setCell]
      have := h3 (j + 1) (by simp; omega)
      rwa [show o + i + (j + 1) = o + (i + 1) + j by omega] at this
theorem setL_heap_other {b : Nat} : ∀ (vs : List Value) (o : Nat) (w : World) (k : Nat), k ≠ b → (setL b o vs w).heap[k]? = w.heap[k]?
  | [], _, _, _, _ => rfl
  | v :: l, o, w, k, h => by
    rw [setL, setL_heap_other l (o + 1) _ k h]
    exact Below.heap_setCell _ _ _ _ h
theorem setL_size {b : Nat} : ∀ (vs : List Value) (o : Nat) (w : World), (setL b o vs w).heap.size = w.heap.size
  | [], _, _ => rfl
  | v :: l, o, w => by rw [setL, setL_size l]; simp
theorem heap_setCell_same {w : World} {b o : Nat} {v : Value} {vs : Array Value} {ty : TypeId} {fz : Nat × Nat} (h : w.heap[b]? = some (.cells vs ty fz)) :
    (w.setCell ⟨b, o, none⟩ v).heap[b]? = some (.cells (vs.setIfInBounds o v) ty fz) := by
  simp [World.setCell, Array.getElem?_modify, h]
/-- a row with some of its cells anew -/
def putL : Nat → List Value → Array Value → Array Value
  | _, [], vs => vs
  | o, v :: l, vs => putL (o + 1) l (vs.setIfInBounds o v)
theorem setL_heap_same {b : Nat} : ∀ (l : List Value) (o : Nat) (w : World) (vs : Array Value) (ty : TypeId) (fz : Nat × Nat), w.heap[b]? = some (.cells vs ty fz) →
    (setL b o l w).heap[b]? = some (.cells (putL o l vs) ty fz)
  | [], _, _, _, _, _, h => h
  | v :: l, o, w, vs, ty, fz, h => by
    rw [setL, putL]
    exact setL_heap_same l (o + 1) _ _ ty fz (heap_setCell_same h)
theorem setL_below {b B : Nat} {w0 : World} (hb : B ≤ b) : ∀ (l : List Value) (o : Nat) (w : World), Below B w0 w → Below B w0 (setL b o l w)
  | [], _, _, h => h
  | v :: l, o, w, h => setL_below hb l (o + 1) _ (h.setCell (p := ⟨b, o, none⟩) hb v)
theorem putL_toList : ∀ (l : List Value) (o : Nat) (vs : Array Value), o + l.length ≤ vs.size → (putL o l vs).toList = vs.toList.take o ++ (l ++ vs.toList.drop (o + l.length))
  | [], o, vs, h => by simp [putL]
  | v :: l, o, vs, h => by
    have hl : o + 1 + l.length ≤ (vs.setIfInBounds o v).size := by simp; simp at h; omega
    rw [putL, putL_toList l (o + 1) _ hl]
    simp only [List.length_cons] at h ⊢
    simp only [Array.toList_setIfInBounds]
    apply List.ext_getElem?
    intro j
    have hvl : vs.toList.length = vs.size := by simp
    simp only [List.getElem?_append, List.length_take, List.length_set, List.getElem?_take, List.getElem?_set, List.getElem?_drop, List.getElem?_cons, hvl]
    grind
theorem putL_size : ∀ (l : List Value) (o : Nat) (vs : Array Value), (putL o l vs).size = vs.size
  | [], _, _ => rfl
  | v :: l, o, vs => by rw [putL, putL_size l]; simp
end Go.Proofs.Ytemggoaefohliaa.AE
