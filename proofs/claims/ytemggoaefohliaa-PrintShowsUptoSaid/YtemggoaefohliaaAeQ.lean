/- A callee by its contract: what it leaves of the world is what it found; texts in a row. No condition. -/
import Derived.Test.YtemggoaefohliaaAeP
namespace Go.Proofs.Ytemggoaefohliaa.AE
set_option linter.unusedVariables false
set_option linter.unusedSimpArgs false
open Go Go.RowKit

/-- a world that has grown and turned nothing -/
theorem Inv.grow {w0 : World} {B : Nat} {G : Gh} {S : St} {w w' : World} (hi : Inv w0 B G S w) (hb : Below w.heap.size w w') : Inv w0 B G S w' ∧ Ext G w G w' := by
  have hlt : ∀ b o v, G.I b o = some v → b < w.heap.size := fun b o v h => World.block_lt_of_cell? w _ (hi.imm b o v h)
  have hbl : ∀ (k : Nat) o, w.heap[k]? = some o → w'.heap[k]? = some o := fun k o h => by
    rw [hb.block k (Array.getElem?_eq_some_iff.1 h).1, h]
  refine ⟨⟨hi.below.trans (hb.mono hi.base), Nat.le_trans hi.base hb.size, fun b o v h => ?_, hi.fr, fun i bx h => ?_, hi.phid, hi.phij, fun t n h => ?_, hi.taud, hi.tauj⟩,
    ⟨.refl G, hb.size, fun _ _ h => .inl h, fun _ _ h => .inl h, fun _ _ _ h => .inl h, fun b h _ _ => hb.block b h⟩⟩
  · rw [hb.cell (p := ⟨b, o, none⟩) (hlt b o v h)]
    exact hi.imm b o v h
  · obtain ⟨b, vs, j1, j2, j3, j4, j5, j6, j7, j8⟩ := hi.box i bx h
    exact ⟨b, vs, j1, j2, hbl _ _ j3, j4, j5, j6, j7, j8⟩
  · obtain ⟨b, m, vs, ty, fz, j1, j2, j3, j4, j5, j6, j7⟩ := hi.tok t n h
    refine ⟨b, m, vs, ty, fz, j1, j2, hbl _ _ j3, j4, j5, fun o ho => ?_, j7⟩
    rw [hb.frozen (p := ⟨b, o, none⟩) (Array.getElem?_eq_some_iff.1 j3).1]
    exact j6 o ho

/-- ROUNDS, each of less than the one ahead; any of them may end the loop. -/
theorem iter_meas {body : FS → Option (Out × FS)} {I : Nat → FS → Prop} {Q : Out × FS → Prop}
    (h : ∀ m fs, I m fs → ∃ o fs', body fs = some (o, fs') ∧ ((o = .norm ∧ ∃ m', m' < m ∧ I m' fs') ∨ (o ≠ .norm ∧ Q (o, fs')))) : ∀ (m L : Nat) (fs : FS), m < L → I m fs → ∃ r, iter L body fs = some r ∧ Q r := by
  intro m
  induction m using Nat.strongRecOn with
  | _ m ih =>
  intro L fs hL hI
  obtain ⟨L, rfl⟩ : ∃ k, L = k + 1 := ⟨L - 1, by omega⟩
  obtain ⟨o, fs', h1, h2⟩ := h m fs hI
  rcases h2 with ⟨rfl, m', hm, hI'⟩ | ⟨ho, hq⟩
  · obtain ⟨r, h3, h4⟩ := ih m' hm L fs' (by omega) hI'
    exact ⟨r, by simp only [iter, h1]; exact h3, h4⟩
  · refine ⟨(o, fs'), ?_, hq⟩
    simp only [iter, h1]
    cases o <;> first | rfl | exact absurd rfl ho

/-- likewise: for a rewrite with a condition -/
theorem skolemR {p : FS → Prop} {q : FS → Out × FS → Prop} (h : ∀ x, p x → ∃ y, q x y) : ∃ F : FS → Out × FS, ∀ x, p x → q x (F x) := by
  classical
  exact ⟨fun x => if h' : p x then (h x h').choose else (.norm, x), fun x hx => by
    have := (h x hx).choose_spec
    simp only [dif_pos hx]
    exact this⟩

def strsOf : List AV → Option (List (List UInt8))
  | [] => some []
  | .str s :: l => match strsOf l with
    | some r => some (s :: r) | none => none
  | _ :: _ => none

theorem strsOf_map : ∀ l : List (List UInt8), strsOf (l.map AV.str) = some l
  | [] => rfl
  | s :: l => by simp [strsOf, strsOf_map l]

theorem strsOf_inv : ∀ {es : List AV} {l : List (List UInt8)}, strsOf es = some l → es = l.map AV.str
  | [], l, h => by simp [strsOf] at h; subst h; rfl
  | .str s :: es, l, h => by
    simp only [strsOf] at h
    split at h
    · rename_i r hr
      cases h
      rw [strsOf_inv hr]; rfl
    · cases h
  | .junk :: _, _, h => by simp [strsOf] at h
  | .undef :: _, _, h => by simp [strsOf] at h
  | .bool _ :: _, _, h => by simp [strsOf] at h
  | .int _ _ :: _, _, h => by simp [strsOf] at h
  | .agg _ :: _, _, h => by simp [strsOf] at h
  | .tup _ :: _, _, h => by simp [strsOf] at h
  | .slice _ _ :: _, _, h => by simp [strsOf] at h
  | .nilp :: _, _, h => by simp [strsOf] at h
  | .ref _ :: _, _, h => by simp [strsOf] at h
  | .loc .. :: _, _, h => by simp [strsOf] at h
  | .ptr .. :: _, _, h => by simp [strsOf] at h
  | .fn .. :: _, _, h => by simp [strsOf] at h
  | .iface .. :: _, _, h => by simp [strsOf] at h
  | .nilif :: _, _, h => by simp [strsOf] at h

theorem flatQ_strs : ∀ l : List (List UInt8), flatQ (l.map AV.str) = some (l.map AV.str)
  | [] => rfl
  | s :: l => by simp [flatQ, AV.cells?, flatQ_strs l]

theorem VRL_strs {G : Gh} : ∀ {l : List (List UInt8)} {vs : List Value}, VRL G (l.map AV.str) vs → ∃ xs : List ByteArray, vs = xs.map Value.string ∧ xs.map (·.data.toList) = l
  | [], vs, h => by cases h; exact ⟨[], rfl, rfl⟩
  | s :: l, vs, h => by
    cases h with
    | cons _ v _ m ha hl =>
      obtain ⟨p, rfl, rfl⟩ := ha.inv_str
      obtain ⟨xs, rfl, rfl⟩ := VRL_strs hl
      exact ⟨p :: xs, rfl, rfl⟩
end Go.Proofs.Ytemggoaefohliaa.AE
