/- Memory operations of the evaluator are those of the model. No condition. -/
import Derived.Test.YtemggoaefohliaaAeC
namespace Go.Proofs.Ytemggoaefohliaa.AE
set_option linter.unusedVariables false
set_option linter.unusedSimpArgs false
open Go Go.RowKit

theorem Below.base_mono {B : Nat} {w0 w w' : World} (h : Below B w0 w) (hs : w.heap.size ≤ w'.heap.size) (hk : ∀ b, b < B → w'.heap[b]? = w.heap[b]?) (ho : w'.os = w.os) (ht : w'.tape = w.tape) (hp : w'.output = w.output) :
    Below B w0 w' := h.trans ⟨ho, ht, hp, hs, hk⟩

/-- Blocks of X may turn; nothing that is known of lies there. -/
theorem Inv.frame {w0 : World} {B : Nat} {G G' : Gh} {S : St} {w w' : World} (hi : Inv w0 B G S w) (X : Nat → Prop)
    (hX : ∀ b, X b → (∀ i, G.phi i ≠ some b) ∧ (∀ t m, G.tau t ≠ some (b, m)) ∧ ∀ o, G.I b o = none)
    (hs : ∀ b, b < w.heap.size → ¬ X b → w'.heap[b]? = w.heap[b]?) (hz : w.heap.size ≤ w'.heap.size) (hb : Below B w0 w')
    (e1 : G'.I = G.I) (e2 : G'.phi = G.phi) (e3 : G'.tau = G.tau) (e4 : G'.fr = G.fr) (e5 : ∀ d v b, G.nu d v = some b → G'.nu d v = some b) : Inv w0 B G' S w' := by
  have le : Gle G G' := ⟨fun b o v h => by rw [e1]; exact h, fun i b h => by rw [e2]; exact h, e5, fun t n h => ⟨n, by rw [e4]; exact h, Nat.le_refl _, fun _ => by rw [e3]⟩⟩
  have hk : ∀ b o, b < w.heap.size → w'.heap[b]? = o → True := fun _ _ _ _ => trivial
  refine ⟨hb, Nat.le_trans hi.base hz, fun b o v h => ?_, fun t => by rw [e4]; exact hi.fr t, fun i bx h => ?_, fun i b h => ?_, fun i j b h1 h2 => ?_, fun t n h => ?_, fun t x h => ?_, fun t u b m m' h1 h2 => ?_⟩
  · rw [e1] at h
    have hc := hi.imm b o v h
    have hlt := World.block_lt_of_cell? w _ hc
    have hx : ¬ X b := fun hx => by rw [(hX b hx).2.2 o] at h; cases h
    rw [World.cell?_of_block (w := w) (w' := w') (hs b hlt hx)]
    exact hc
  · obtain ⟨b, vs, h1, h2, h3, h4, h5, h6, h7, h8⟩ := hi.box i bx h
    refine ⟨b, vs, by rw [e2]; exact h1, h2, ?_, h4.mono le, fun o => by rw [e1]; exact h5 o, h6, h7, h8⟩
    rw [hs b (lt_of_heap h3) fun hx => (hX b hx).1 i h1]
    exact h3
  · rw [e2] at h; exact hi.phid i b h
  · rw [e2] at h1 h2; exact hi.phij i j b h1 h2
  · obtain ⟨b, m, vs, ty, fz, h1, h2, h3, h4, h5, h6, h7⟩ := hi.tok t n h
    have hb' := hs b (lt_of_heap h3) fun hx => (hX b hx).2.1 t m h1
    refine ⟨b, m, vs, ty, fz, by rw [e3]; exact h1, h2, by rw [hb']; exact h3, h4, fun o ho => by rw [e1]; exact h5 o ho, fun o ho => ?_, fun i => by rw [e2]; exact h7 i⟩
    rw [World.frozen?_of_block (w := w) (w' := w') hb']
    exact h6 o ho
  · rw [e3] at h; exact hi.taud t x h
  · rw [e3] at h1 h2; exact hi.tauj t u b m m' h1 h2

/-- what does not turn within a frame: the call's beginning, the frame's own -/
structure Fix where
  w0 : World
  B : Nat
  Ge : Gh
  we : World
  Se : St
  cx : Ctx
  ie : Inv w0 B Ge Se we

structure Pre (F : Fix) (fs : FS) (G : Gh) (w : World) : Prop where
  inv : Inv F.w0 F.B G fs.S w
  ext : Ext F.Ge F.we G w
  loc : LInv F.we.heap.size G w F.cx.dep fs.b

structure Post (F : Fix) (c i : Nat) (G : Gh) (b' : Nat → Nat × List AV) (S' : St) (v : AV) (G' : Gh) (w' : World) (v' : Value) : Prop where
  vr : VR G' v v'
  inv : Inv F.w0 F.B G' S' w'
  le : Gle G G'
  ext : Ext F.Ge F.we G' w'
  loc : LInv F.we.heap.size G' w' F.cx.dep b'
  nu : ∀ d x, G'.nu d x ≠ G.nu d x → d = F.cx.dep ∧ x = c + i + 1

theorem Post.same {F : Fix} {c i : Nat} {G : Gh} {w : World} {fs : FS} {v : AV} {v' : Value} (hp : Pre F fs G w) (h : VR G v v') :
    Post F c i G fs.b fs.S v G w v' := ⟨h, hp.inv, .refl G, hp.ext, hp.loc, fun _ _ h => absurd rfl h⟩
theorem Ext.other {Ge G : Gh} {we w w' : World} (h : Ext Ge we G w) (hz : w.heap.size ≤ w'.heap.size) (hs : ∀ b, b < we.heap.size → (∀ i, Ge.phi i ≠ some b) → (∀ t m, Ge.tau t ≠ some (b, m)) → w'.heap[b]? = w.heap[b]?) : Ext Ge we G w' :=
  ⟨h.le, Nat.le_trans h.size hz, h.phi, h.tau, h.I, fun b hb h1 h2 => (hs b hb h1 h2).trans (h.keep b hb h1 h2)⟩

theorem heap_alloc_lt (w : World) (o : Obj) {b : Nat} (h : b < w.heap.size) : (w.alloc o).heap[b]? = w.heap[b]? := Below.heap_alloc w o b h
theorem heap_alloc_at (w : World) (o : Obj) : (w.alloc o).heap[w.heap.size]? = some o := by
  show (w.heap.push o)[w.heap.size]? = some o
  simp
theorem below_alloc' {B : Nat} {w0 w : World} (h : Below B w0 w) (hb : B ≤ w.heap.size) (o : Obj) : Below B w0 (w.alloc o) := h.alloc hb o

/-- a new local box -/
theorem box_local {F : Fix} {i d : Nat} {G : Gh} {w : World} {fs : FS} {ty : TypeId} {cs : List AV} {vs : Array Value}
    (hp : Pre F fs G w) (hn : G.nu F.cx.dep (fs.c + i + 1) = none) (hr : VRL G cs vs.toList) (h1 : ∀ x ∈ vs.toList, oneV x = true) (h2 : ∀ x ∈ cs, x.isCell = true) :
    ∃ G', Post F fs.c i G (upd d (fs.c + i + 1, cs) fs.b) fs.S (.loc F.cx.dep d (fs.c + i + 1) 0) G' (w.alloc (.cells vs ty)) (.pointer (some ⟨w.heap.size, 0, none⟩)) := by
  obtain ⟨hi, he0, hl⟩ := hp
  let cx := F.cx
  let G' : Gh := { G with nu := fun e x => if e = cx.dep ∧ x = fs.c + i + 1 then some w.heap.size else G.nu e x }
  have hnu : ∀ e x b, G.nu e x = some b → G'.nu e x = some b := fun e x b h => by
    show (if e = cx.dep ∧ x = fs.c + i + 1 then some w.heap.size else G.nu e x) = some b
    split
    · rename_i hc; rw [hc.1, hc.2, hn] at h; cases h
    · exact h
  have le : Gle G G' := ⟨fun _ _ _ h => h, fun _ _ h => h, hnu, fun t n h => ⟨n, h, Nat.le_refl _, fun _ => rfl⟩⟩
  have ext : Ext G w G' (w.alloc (.cells vs ty)) := ⟨le, by simp, fun _ _ h => .inl h, fun _ _ h => .inl h, fun _ _ _ h => .inl h, fun b hb _ _ => heap_alloc_lt w _ hb⟩
  have hnew : G'.nu cx.dep (fs.c + i + 1) = some w.heap.size := by simp [G']
  refine ⟨G', .loc _ _ _ _ _ hnew, hi.frame (fun _ => False) (fun _ h => h.elim) (fun b hb _ => heap_alloc_lt w _ hb) (by simp) (hi.below.alloc hi.base _) rfl rfl rfl rfl hnu, le, he0.trans F.ie ext, ⟨fun e he => ?_, fun e f k he hf k1 k2 => ?_⟩, fun e x hx => ?_⟩
  · by_cases hed : e = d
    · subst hed
      refine ⟨w.heap.size, vs, ty, by simpa [upd] using hnew, he0.size, heap_alloc_at w _, by simpa [upd] using hr.mono le, fun o => ?_, h1, by simpa [upd] using h2, fun j hj => ?_, fun t m hm => ?_⟩
      · cases hI : G.I w.heap.size o with
        | none => rfl
        | some v => have := World.block_lt_of_cell? w _ (hi.imm _ _ _ hI); simp at this
      · have hd := hi.phid j _ hj
        obtain ⟨b, vs', k1, _, k3, _⟩ := hi.box j _ (List.getElem?_eq_getElem hd)
        rw [show G'.phi = G.phi from rfl, k1] at hj; cases hj
        have := lt_of_heap k3; omega
      · have hd := hi.taud t _ hm
        obtain ⟨b, m', vs', ty', fz, k1, _, k3, _⟩ := hi.tok t _ (List.getElem?_eq_getElem hd)
        rw [show G'.tau = G.tau from rfl, k1] at hm; cases hm
        have := lt_of_heap k3; omega
    · simp only [upd, hed, if_false] at he ⊢
      exact (hl.ext ext).box e he
  · by_cases hed : e = d
    · by_cases hfd : f = d
      · rw [hed, hfd]
      · subst hed
        simp only [upd, hfd, if_false] at hf k2
        simp only [upd, if_true] at k1
        rw [hnew] at k1; cases k1
        obtain ⟨k, vs', ty', k3, _, k5, _⟩ := hl.box f hf
        have := hnu _ _ _ k3
        rw [k2] at this; cases this
        have := lt_of_heap k5; omega
    · by_cases hfd : f = d
      · subst hfd
        simp only [upd, hed, if_false] at he k1
        simp only [upd, if_true] at k2
        rw [hnew] at k2; cases k2
        obtain ⟨k, vs', ty', k3, _, k5, _⟩ := hl.box e he
        have := hnu _ _ _ k3
        rw [k1] at this; cases this
        have := lt_of_heap k5; omega
      · simp only [upd, hed, hfd, if_false] at he hf k1 k2
        exact (hl.ext ext).inj e f k he hf k1 k2
  · by_cases hc : e = cx.dep ∧ x = fs.c + i + 1
    · exact hc
    · exact absurd (by show (if _ then _ else _) = _; rw [if_neg hc]) hx

/-- a new box outside -/
theorem box_heap {F : Fix} {i : Nat} {G : Gh} {w : World} {fs : FS} {ty : TypeId} {cs : List AV} {vs : Array Value}
    (hp : Pre F fs G w) (hr : VRL G cs vs.toList) (h1 : ∀ x ∈ vs.toList, oneV x = true) (h2 : ∀ x ∈ cs, x.isCell = true) (hs : AV.sealedL cs = true) :
    ∃ G', Post F fs.c i G fs.b { fs.S with H := fs.S.H ++ [⟨ty, cs⟩] } (.ptr fs.S.H.length 0) G' (w.alloc (.cells vs ty)) (.pointer (some ⟨w.heap.size, 0, none⟩)) := by
  obtain ⟨hi, he0, hl⟩ := hp
  let G' : Gh := { G with phi := fun e => if e = fs.S.H.length then some w.heap.size else G.phi e }
  have hph : ∀ e b, G.phi e = some b → G'.phi e = some b := fun e b h => by
    show (if e = fs.S.H.length then some w.heap.size else G.phi e) = some b
    split
    · rename_i hc; have := hi.phid e b h; omega
    · exact h
  have le : Gle G G' := ⟨fun _ _ _ h => h, hph, fun _ _ _ h => h, fun t n h => ⟨n, h, Nat.le_refl _, fun _ => rfl⟩⟩
  have hphi : ∀ e b, G'.phi e = some b → G.phi e = some b ∧ b < w.heap.size ∨ e = fs.S.H.length ∧ b = w.heap.size := fun e b h => by
    by_cases hc : e = fs.S.H.length
    · have : G'.phi e = some w.heap.size := by simp [G', hc]
      rw [h] at this; cases this; exact .inr ⟨hc, rfl⟩
    · have h' : G.phi e = some b := by simpa [G', hc] using h
      have hd := hi.phid e _ h'
      obtain ⟨b', vs', k1, _, k3, _⟩ := hi.box e _ (List.getElem?_eq_getElem hd)
      rw [h'] at k1; cases k1
      exact .inl ⟨h', lt_of_heap k3⟩
  have ext : Ext G w G' (w.alloc (.cells vs ty)) := ⟨le, by simp, fun e b h => (hphi e b h).elim (fun h => .inl h.1) (fun h => .inr (by omega)), fun _ _ h => .inl h, fun _ _ _ h => .inl h, fun b hb _ _ => heap_alloc_lt w _ hb⟩
  have hnoI : ∀ o, G.I w.heap.size o = none := fun o => by
    cases hI : G.I w.heap.size o with
    | none => rfl
    | some v => have := World.block_lt_of_cell? w _ (hi.imm _ _ _ hI); simp at this
  refine ⟨G', .ptr _ _ _ (by simp [G']), ⟨hi.below.alloc hi.base _, Nat.le_trans hi.base (by simp), fun b o v h => ?_, hi.fr, fun e bx h => ?_, fun e b h => ?_, fun e f b k1 k2 => ?_, fun t n h => ?_, hi.taud, hi.tauj⟩, le, he0.trans F.ie ext, hl.ext ext, fun _ _ h => absurd rfl h⟩
  · have hc := hi.imm b o v h
    rw [World.cell?_alloc_lt w _ _ (World.block_lt_of_cell? w _ hc)]
    exact hc
  · rw [List.getElem?_append] at h
    split at h
    · obtain ⟨b, vs', k1, k2, k3, k4, k5, k6, k7, k8⟩ := hi.box e bx h
      exact ⟨b, vs', hph _ _ k1, k2, by rw [heap_alloc_lt w _ (lt_of_heap k3)]; exact k3, k4.mono le, k5, k6, k7, k8⟩
    · rename_i hlt
      have he : e = fs.S.H.length := by
        rcases Nat.lt_or_ge (e - fs.S.H.length) 1 with h' | h'
        · omega
        · rw [List.getElem?_eq_none (by simpa using h')] at h; cases h
      subst he
      simp at h
      subst h
      exact ⟨w.heap.size, vs, by simp [G'], hi.base, heap_alloc_at w _, hr.mono le, hnoI, h1, h2, hs⟩
  · rcases hphi e b h with h | h
    · have := hi.phid e b h.1; simp; omega
    · simp; omega
  · rcases hphi e b k1 with k1 | k1 <;> rcases hphi f b k2 with k2 | k2
    · exact hi.phij e f b k1.1 k2.1
    · omega
    · omega
    · omega
  · obtain ⟨b, m, vs', ty', fz, k1, k2, k3, k4, k5, k6, k7⟩ := hi.tok t n h
    refine ⟨b, m, vs', ty', fz, k1, k2, by rw [heap_alloc_lt w _ (lt_of_heap k3)]; exact k3, k4, k5, fun o ho => ?_, fun e he => ?_⟩
    · rw [World.frozen?_of_block (w := w) (heap_alloc_lt w _ (lt_of_heap k3))]; exact k6 o ho
    · have := lt_of_heap k3
      rcases hphi e b he with h | h
      · exact k7 e h.1
      · omega

theorem sealedL_mem {l : List AV} : AV.sealedL l = true ↔ ∀ x ∈ l, x.sealed = true := by
  induction l with
  | nil => simp [AV.sealedL]
  | cons a l ih => simp [AV.sealedL, ih]

theorem wrc_spec {off : Nat} {new cs r : List AV} (h : wrc off new cs = some r) : off + new.length ≤ cs.length ∧ r = cs.take off ++ (new ++ cs.drop (off + new.length)) := by
  unfold wrc at h
  split at h
  · cases h; exact ⟨‹_›, rfl⟩
  · cases h
theorem wrc_mem {off : Nat} {new cs r : List AV} (h : wrc off new cs = some r) {p : AV → Prop} (h1 : ∀ x ∈ new, p x) (h2 : ∀ x ∈ cs, p x) : ∀ x ∈ r, p x := by
  obtain ⟨_, rfl⟩ := wrc_spec h
  intro x hx
  simp only [List.mem_append] at hx
  rcases hx with hx | hx | hx
  · exact h2 x (List.mem_of_mem_take hx)
  · exact h1 x hx
  · exact h2 x (List.mem_of_mem_drop hx)
theorem wrc_put {G : Gh} {off : Nat} {new cs r : List AV} (h : wrc off new cs = some r) {nv : List Value} {vs : Array Value} (h1 : VRL G new nv) (h2 : VRL G cs vs.toList) : VRL G r (putL off nv vs).toList := by
  obtain ⟨hle, rfl⟩ := wrc_spec h
  have l1 := h1.length
  have l2 := h2.length
  simp at l2
  rw [putL_toList nv off vs (by omega)]
  exact (h2.take off).append (h1.append (by rw [l1]; exact h2.drop _))
theorem putL_one {off : Nat} {nv : List Value} {vs : Array Value} (hle : off + nv.length ≤ vs.size) (h1 : ∀ x ∈ nv, oneV x = true) (h2 : ∀ x ∈ vs.toList, oneV x = true) : ∀ x ∈ (putL off nv vs).toList, oneV x = true := by
  rw [putL_toList nv off vs hle]
  intro x hx
  simp only [List.mem_append] at hx
  rcases hx with hx | hx | hx
  · exact h2 x (List.mem_of_mem_take hx)
  · exact h1 x hx
  · exact h2 x (List.mem_of_mem_drop hx)

theorem setL_os {b : Nat} : ∀ (l : List Value) (o : Nat) (w : World), (setL b o l w).os = w.os ∧ (setL b o l w).tape = w.tape ∧ (setL b o l w).output = w.output
  | [], _, _ => ⟨rfl, rfl, rfl⟩
  | v :: l, o, w => by rw [setL]; exact setL_os l (o + 1) _

/-- a store into a local box -/
theorem store_local {F : Fix} {i d ver off k : Nat} {G : Gh} {w : World} {fs : FS} {new cs : List AV} {nv : List Value}
    (hp : Pre F fs G w) (hv : (fs.b d).1 = ver) (h0 : ver ≠ 0) (hk : G.nu F.cx.dep ver = some k) (hw : wrc off new (fs.b d).2 = some cs)
    (hr : VRL G new nv) (h1 : ∀ x ∈ nv, oneV x = true) (h2 : ∀ x ∈ new, x.isCell = true) :
    (∀ j, j < nv.length → (w.cell? ⟨k, off + j, none⟩).isSome = true) ∧ (∀ j, j < nv.length → w.frozen? ⟨k, off + j, none⟩ = false) ∧
    Post F fs.c i G (upd d (ver, cs) fs.b) fs.S .undef G (setL k off nv w) (.tuple #[]) := by
  obtain ⟨hi, he0, hl⟩ := hp
  obtain ⟨k', vs, ty, k1, k2, k3, k4, k5, k6, k7, k8, k9⟩ := hl.box d (by rw [hv]; exact h0)
  rw [hv, hk] at k1; cases k1
  have hlen := hr.length
  have hlen2 := k4.length
  simp at hlen2
  obtain ⟨hle, _⟩ := wrc_spec hw
  refine ⟨fun j hj => ?_, fun j _ => frozen_of_heap k3, .undef, ?_, .refl G, ?_, ⟨fun e he => ?_, fun e f x he hf x1 x2 => ?_⟩, fun _ _ h => absurd rfl h⟩
  · rw [cell_of_heap k3]; simp; omega
  · exact hi.frame (fun b => b = k) (fun b hb => by subst hb; exact ⟨k8, k9, k5⟩) (fun b _ hb => setL_heap_other nv off w b hb) (by rw [setL_size]; exact Nat.le_refl _) (setL_below (Nat.le_trans F.ie.base k2) nv off w hi.below) rfl rfl rfl rfl (fun _ _ _ h => h)
  · exact he0.other (by rw [setL_size]; exact Nat.le_refl _) fun b hb _ _ => setL_heap_other nv off w b (by omega)
  · by_cases hed : e = d
    · subst hed
      exact ⟨k, putL off nv vs, ty, by simpa [upd] using hk, k2, setL_heap_same nv off w vs ty (0, 0) k3, by simpa [upd] using wrc_put hw hr k4, k5, putL_one (by omega) h1 k6, by simpa [upd] using wrc_mem hw h2 k7, k8, k9⟩
    · simp only [upd, hed, if_false] at he ⊢
      obtain ⟨x, vs', ty', x1, x2, x3, x4, x5, x6, x7, x8, x9⟩ := hl.box e he
      refine ⟨x, vs', ty', x1, x2, ?_, x4, x5, x6, x7, x8, x9⟩
      rw [setL_heap_other nv off w x fun hx => hed (hl.inj e d x he (by rw [hv]; exact h0) x1 (by rw [hv, hx]; exact hk))]
      exact x3
  · have t : ∀ y, (upd d (ver, cs) fs.b y).1 = (fs.b y).1 := fun y => by
      unfold upd; split
      · rename_i hy; subst hy; exact hv.symm
      · rfl
    rw [t] at he hf x1 x2
    exact hl.inj e f x he hf x1 x2

/-- a store into a box outside -/
theorem store_heap {F : Fix} {i id off k : Nat} {G : Gh} {w : World} {fs : FS} {bx : HBox} {new cs : List AV} {nv : List Value}
    (hp : Pre F fs G w) (hb : fs.S.H[id]? = some bx) (hk : G.phi id = some k) (hw : wrc off new bx.cs = some cs) (hse : AV.sealedL new = true)
    (hr : VRL G new nv) (h1 : ∀ x ∈ nv, oneV x = true) (h2 : ∀ x ∈ new, x.isCell = true) :
    (∀ j, j < nv.length → (w.cell? ⟨k, off + j, none⟩).isSome = true) ∧ (∀ j, j < nv.length → w.frozen? ⟨k, off + j, none⟩ = false) ∧
    Post F fs.c i G fs.b { fs.S with H := fs.S.H.set id ⟨bx.ty, cs⟩ } .undef G (setL k off nv w) (.tuple #[]) := by
  obtain ⟨hi, he0, hl⟩ := hp
  obtain ⟨k', vs, k1, k2, k3, k4, k5, k6, k7, k8⟩ := hi.box id bx hb
  rw [hk] at k1; cases k1
  have hlen := hr.length
  have hlen2 := k4.length
  simp at hlen2
  obtain ⟨hle, _⟩ := wrc_spec hw
  have hid : id < fs.S.H.length := hi.phid id k hk
  have hIk : ∀ b o v, G.I b o = some v → b ≠ k := fun b o v h e => by subst e; rw [k5 o] at h; cases h
  refine ⟨fun j hj => ?_, fun j _ => frozen_of_heap k3, .undef, ⟨setL_below k2 nv off w hi.below, by rw [setL_size]; exact hi.base, fun b o v h => ?_, hi.fr, fun e b h => ?_, fun e b h => ?_, hi.phij, fun t n h => ?_, hi.taud, hi.tauj⟩, .refl G, ?_, ?_, fun _ _ h => absurd rfl h⟩
  · rw [cell_of_heap k3]; simp; omega
  · have := hi.imm b o v h
    rw [World.cell?_of_block (w := w) (setL_heap_other nv off w b (hIk b o v h))]
    exact this
  · by_cases hei : e = id
    · subst hei
      rw [List.getElem?_set_self hid] at h
      cases h
      exact ⟨k, putL off nv vs, hk, k2, setL_heap_same nv off w vs _ _ k3, wrc_put hw hr k4, k5, putL_one (by omega) h1 k6, wrc_mem hw h2 k7, sealedL_mem.2 (wrc_mem hw (sealedL_mem.1 hse) (sealedL_mem.1 k8))⟩
    · rw [List.getElem?_set_ne (by omega)] at h
      obtain ⟨x, vs', x1, x2, x3, x4, x5, x6, x7, x8⟩ := hi.box e b h
      refine ⟨x, vs', x1, x2, ?_, x4, x5, x6, x7, x8⟩
      rw [setL_heap_other nv off w x fun hx => hei (hi.phij e id x x1 (by rw [hx]; exact hk))]
      exact x3
  · have := hi.phid e b h; simpa using this
  · obtain ⟨b, m, vs', ty', fz, x1, x2, x3, x4, x5, x6, x7⟩ := hi.tok t n h
    have hne : b ≠ k := fun e => x7 id (by rw [e]; exact hk)
    have hh := setL_heap_other nv off w b hne
    exact ⟨b, m, vs', ty', fz, x1, x2, by rw [hh]; exact x3, x4, x5, fun o ho => by rw [World.frozen?_of_block (w := w) hh]; exact x6 o ho, x7⟩
  · refine he0.other (by rw [setL_size]; exact Nat.le_refl _) fun b hb' hp' _ => setL_heap_other nv off w b fun e => ?_
    rcases he0.phi id k hk with h | h
    · exact hp' id (by rw [e]; exact h)
    · omega
  · refine ⟨fun e he => ?_, hl.inj⟩
    obtain ⟨x, vs', ty', x1, x2, x3, x4, x5, x6, x7, x8, x9⟩ := hl.box e he
    refine ⟨x, vs', ty', x1, x2, ?_, x4, x5, x6, x7, x8, x9⟩
    rw [setL_heap_other nv off w x fun hx => x8 id (by rw [hx]; exact hk)]
    exact x3
end Go.Proofs.Ytemggoaefohliaa.AE
