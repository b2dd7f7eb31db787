/- Structs and slices written out: the evaluator's are the model's. No condition. -/
import Derived.Test.YtemggoaefohliaaAeG
namespace Go.Proofs.Ytemggoaefohliaa.AE
set_option linter.unusedVariables false
set_option linter.unusedSimpArgs false
open Go Go.RowKit

theorem run_mapM_list {α β : Type} {P : Program} {w : World} (f : α → Sem β) (g : α → β) : ∀ (l : List α), (∀ x ∈ l, (f x).run P w = .ok (g x) w) → (l.mapM f).run P w = .ok (l.map g) w
  | [], _ => by simp
  | a :: l, h => by
    simp [List.mapM_cons, h a (by simp), run_mapM_list f g l fun x hx => h x (by simp [hx])]
theorem run_mapM {α β : Type} {P : Program} {w : World} (f : α → Sem β) (g : α → β) (l : Array α) (h : ∀ x ∈ l, (f x).run P w = .ok (g x) w) : (l.mapM f).run P w = .ok (l.map g) w := by
  rw [Array.mapM_eq_mapM_toList]
  simp [run_mapM_list f g l.toList fun x hx => h x (by simpa using hx)]
  exact Array.ext' (by simp)

theorem zipIdx_putL : ∀ (l : List Value) (off k : Nat) (cs : Array Value), (l.zipIdx k).foldl (fun cs (x : Value × Nat) => cs.setIfInBounds (off + x.2) x.1) cs = putL (off + k) l cs
  | [], _, _, _ => rfl
  | v :: l, off, k, cs => by
    rw [List.zipIdx_cons, List.foldl_cons, zipIdx_putL l off (k + 1)]
    rfl
theorem fold_putL (vs : Array Value) (off : Nat) (cs : Array Value) : vs.zipIdx.foldl (fun cs (x : Value × Nat) => cs.setIfInBounds (off + x.2) x.1) cs = putL off vs.toList cs := by
  rw [← Array.foldl_toList, Array.toList_zipIdx, zipIdx_putL]
  rfl

/-- parts, as they stand for each other -/
def PVR (G : Gh) : List (Nat × AV) → List (Nat × Value) → Prop
  | [], [] => True
  | (i, a) :: l, (j, v) :: m => i = j ∧ VR G a v ∧ PVR G l m
  | _, _ => False
theorem PVR.of_map {G : Gh} {t : Nat → AV} {a : Act} (h : ∀ x, VR G (t x) (a.tmps.getD x undef)) : ∀ (l : List (Nat × Operand)), PVR G (l.map fun p => (p.1, rho t p.2)) (l.map fun p => (p.1, a.eval p.2))
  | [] => trivial
  | (i, x) :: l => ⟨rfl, rho_VR h x, PVR.of_map h l⟩

theorem fillA_run {G : Gh} {place : Nat → Option (Nat × Nat)} : ∀ (ps : List (Nat × AV)) (qs : List (Nat × Value)) (z cs : List AV) (zv : Array Value), PVR G ps qs → VRL G z zv.toList → (∀ x ∈ z, x.isCell = true) →
    fillA place ps z = some cs → ∃ cells, Instr.fill place zv qs = some cells ∧ VRL G cs cells.toList ∧ (∀ x ∈ cs, x.isCell = true)
  | [], qs, z, cs, zv, hp, hz, hc, h => by
    cases qs with
    | nil => cases h; exact ⟨zv, rfl, hz, hc⟩
    | cons _ _ => exact hp.elim
  | (i, a) :: ps, qs, z, cs, zv, hp, hz, hc, h => by
    cases qs with
    | nil => exact hp.elim
    | cons q qs =>
      obtain ⟨j, v⟩ := q
      obtain ⟨rfl, hv, hps⟩ := hp
      simp only [fillA] at h
      split at h
      · rename_i off sz new e1 e2
        split at h
        · rename_i hsz
          split at h
          · rename_i cs' hw
            obtain ⟨n1, n2, n3⟩ := hv.cells e2
            have hl := n1.length
            have hlz := hz.length
            obtain ⟨hle, _⟩ := wrc_spec hw
            simp at hl hlz
            obtain ⟨cells, r1, r2, r3⟩ := fillA_run ps qs cs' cs (putL off v.cells.toList zv) hps (wrc_put hw n1 hz) (wrc_mem hw n3 hc) h
            refine ⟨cells, ?_, r2, r3⟩
            simp only [Instr.fill, e1]
            rw [if_neg (by simp; omega), fold_putL]
            exact r1
          · cases h
        · cases h
      · cases h

theorem evBuild_run {P : Program} {G : Gh} {w : World} {t : TypeId} {ps : List (Nat × AV)} {qs : Array (Nat × Value)} {r : AV} (hp : PVR G ps qs.toList) (h : evBuild P t ps = some r) :
    ∃ v, (Instr.build t qs).run P w = .ok v w ∧ VR G r v := by
  unfold evBuild at h
  split at h
  · rename_i hk
    split at h
    · rename_i z hz
      split at h
      · rename_i cs hf
        cases h
        obtain ⟨i, zv, z1, z2, z3, z4, z5, z6, z7, z8⟩ := zero_cells hz G
        have hzr : (zeroValue t).run P w = .ok zv w := by simp [zeroValue, typeInfo, z1, z2]
        unfold partsQ at hk
        split at hk
        · rename_i fs hu
          have hm : (fs.mapM fun f => do pure (f.offset, ← sizeOf f.type) : Sem (Array (Nat × Nat))).run P w = .ok (fs.map fun f => (f.offset, P.cellsOf f.type)) w := by
            refine run_mapM _ (fun f => (f.offset, P.cellsOf f.type)) fs fun f hf => ?_
            obtain ⟨fi, hfi⟩ := Option.isSome_iff_exists.1 ((Array.all_eq_true'.1 hk) f hf)
            simp [run_sizeOf' P w f.type fi hfi]
          have hpl : (fun i => (fs.map fun f => (f.offset, P.cellsOf f.type))[i]?) = placeQ P t := by
            funext j
            simp only [placeQ, hu, Array.getElem?_map]
            cases fs[j]? <;> rfl
          obtain ⟨cells, r1, r2, r3⟩ := fillA_run ps qs.toList z cs zv.cells hp z6 z8 (by rw [← hpl] at hf; exact hf)
          refine ⟨.agg cells, ?_, .agg _ _ r2⟩
          simp only [Instr.build, Sem.run_bind, hzr, Result.andThen_ok, run_underlying' P w t _ hu, hm, r1, Sem.run_pure]
        · rename_i n e hu
          obtain ⟨fi, hfi⟩ := Option.isSome_iff_exists.1 hk
          have hpl : (fun i => some (i * P.cellsOf e, P.cellsOf e)) = placeQ P t := by
            funext j
            simp only [placeQ, hu]
          obtain ⟨cells, r1, r2, r3⟩ := fillA_run ps qs.toList z cs zv.cells hp z6 z8 (by rw [← hpl] at hf; exact hf)
          refine ⟨.agg cells, ?_, .agg _ _ r2⟩
          simp only [Instr.build, Sem.run_bind, hzr, Result.andThen_ok, run_underlying' P w t _ hu, run_sizeOf' P w e fi hfi, r1, Sem.run_pure]
        · cases hk
      · cases h
    · cases h
  · cases h

theorem evElems_run {G : Gh} {ag : Bool} {sz : Nat} : ∀ (ps : List (Nat × AV)) (qs : List (Nat × Value)) (k : Nat) (es : List AV) (cells : Array Value), PVR G ps qs → evElems ag sz k ps = some es → cells.size = (k + ps.length) * sz →
    ∃ cells' fl news, Instr.fill (fun i => some (i * sz, sz)) cells qs = some cells' ∧ flatQ es = some fl ∧ fl.length = es.length * sz ∧ es.length = ps.length ∧ sizesOk sz es = true ∧ VRL G fl news ∧ cells'.toList = cells.toList.take (k * sz) ++ news
  | [], qs, k, es, cells, hp, h, hs => by
    cases qs with
    | nil =>
      cases h
      refine ⟨cells, [], [], rfl, rfl, by simp, rfl, rfl, .nil, ?_⟩
      rw [List.take_of_length_le (by simp at hs ⊢; omega)]
      simp
    | cons _ _ => exact hp.elim
  | (i, a) :: ps, qs, k, es, cells, hp, h, hs => by
    cases qs with
    | nil => exact hp.elim
    | cons q qs =>
      obtain ⟨j, v⟩ := q
      obtain ⟨rfl, hv, hps⟩ := hp
      simp only [evElems] at h
      split at h
      · rename_i cs hcs
        split at h
        · rename_i hc
          obtain ⟨rfl, hlen, _⟩ := hc
          split at h
          · rename_i es' he
            cases h
            obtain ⟨n1, n2, n3⟩ := hv.cells hcs
            have hl := n1.length
            simp at hl
            simp only [List.length_cons] at hs
            have hks : i * sz + sz ≤ cells.size := by
              rw [hs, show (i + (ps.length + 1)) * sz = i * sz + sz + ps.length * sz by rw [Nat.add_mul, Nat.add_mul]; omega]
              omega
            obtain ⟨cells', fl, news, r1, r2, r3, r4, r5, r6, r7⟩ := evElems_run ps qs (i + 1) es' (putL (i * sz) v.cells.toList cells) hps he (by rw [putL_size, hs]; congr 1; omega)
            refine ⟨cells', cs ++ fl, v.cells.toList ++ news, ?_, by simp [flatQ, hcs, r2], by simp [hlen, r3, Nat.add_mul]; omega, by simp [r4], by simp [sizesOk, hcs, hlen, r5], n1.append r6, ?_⟩
            · simp only [Instr.fill]
              rw [if_neg (by simp; omega), fold_putL]
              exact r1
            · rw [r7, putL_toList _ _ _ (by simp; omega)]
              have e1 : (i + 1) * sz = i * sz + sz := by rw [Nat.add_mul]; omega
              have e2 : (List.take (i * sz) cells.toList ++ v.cells.toList).length = (i + 1) * sz := by simp; omega
              rw [← List.append_assoc, List.take_left' e2, List.append_assoc]
          · cases h
        · cases h
      · cases h

/-- a new row, all of which stays as it is -/
theorem Inv.newImm {w0 : World} {B : Nat} {G : Gh} {S : St} {w : World} (hi : Inv w0 B G S w) (ty : TypeId) {fl : List AV} {cells : Array Value} (hv : VRL G fl cells.toList) :
    ∃ G', Inv w0 B G' S (w.alloc (.cells cells ty)) ∧ Ext G w G' (w.alloc (.cells cells ty)) ∧ VRI G' fl w.heap.size 0 ∧ G'.nu = G.nu := by
  let G' : Gh := { G with I := fun b o => if b = w.heap.size then cells[o]? else G.I b o }
  have hIlt : ∀ b o v, G.I b o = some v → b < w.heap.size := fun b o v h => World.block_lt_of_cell? w _ (hi.imm b o v h)
  have hI : ∀ b o v, G.I b o = some v → G'.I b o = some v := fun b o v h => by
    have := hIlt b o v h
    show (if b = w.heap.size then cells[o]? else G.I b o) = some v
    rw [if_neg (by omega)]; exact h
  have hIn : ∀ b o, b < w.heap.size → G'.I b o = G.I b o := fun b o h => by
    show (if b = w.heap.size then cells[o]? else G.I b o) = _
    rw [if_neg (by omega)]
  have le : Gle G G' := ⟨hI, fun _ _ h => h, fun _ _ _ h => h, fun u n h => ⟨n, h, Nat.le_refl _, fun _ => rfl⟩⟩
  refine ⟨G', ⟨hi.below.alloc hi.base _, Nat.le_trans hi.base (by simp), fun b o v h => ?_, hi.fr, fun e bx h => ?_, hi.phid, hi.phij, fun u n h => ?_, hi.taud, hi.tauj⟩, ⟨le, by simp, fun _ _ h => .inl h, fun u x h => .inl h, fun b o v h => ?_, fun b hb _ _ => heap_alloc_lt w _ hb⟩, ?_, rfl⟩
  · by_cases hb : b = w.heap.size
    · subst hb
      have h' : cells[o]? = some v := by simpa [G'] using h
      rw [World.cell?_alloc_new]; exact h'
    · have h' : G.I b o = some v := by simpa [G', hb] using h
      rw [World.cell?_alloc_lt w _ _ (hIlt b o v h')]
      exact hi.imm b o v h'
  · obtain ⟨b, vs', k1, k2, k3, k4, k5, k6, k7, k8⟩ := hi.box e bx h
    exact ⟨b, vs', k1, k2, by rw [heap_alloc_lt w _ (lt_of_heap k3)]; exact k3, k4.mono le, fun o => by rw [hIn b o (lt_of_heap k3)]; exact k5 o, k6, k7, k8⟩
  · obtain ⟨b, m, vs', ty', fz, k1, k2, k3, k4, k5, k6, k7⟩ := hi.tok u n h
    refine ⟨b, m, vs', ty', fz, k1, k2, by rw [heap_alloc_lt w _ (lt_of_heap k3)]; exact k3, k4, fun o ho => by rw [hIn b o (lt_of_heap k3)]; exact k5 o ho, fun o ho => ?_, k7⟩
    rw [World.frozen?_of_block (w := w) (heap_alloc_lt w _ (lt_of_heap k3))]; exact k6 o ho
  · by_cases hb : b = w.heap.size
    · exact .inr (.inl (by omega))
    · exact .inl (by simpa [G', hb] using h)
  · exact VRI.of_vals (hv.mono le) fun j v hj => by
      show (if w.heap.size = w.heap.size then cells[0 + j]? else _) = some v
      rw [if_pos rfl, Nat.zero_add]; simpa using hj

theorem evBuildSlice_run {F : Fix} {P : Program} {fs : FS} {G : Gh} {w : World} {i : Nat} {t : TypeId} {n : Nat} {ps : List (Nat × AV)} {qs : Array (Nat × Value)} {r : AV} (hpre : Pre F fs G w) (hp : PVR G ps qs.toList) (h : evBuildSlice P t n ps = some r) :
    ∃ G' w' v, (Instr.buildSlice t n qs).run P w = .ok v w' ∧ Post F fs.c i G fs.b fs.S r G' w' v := by
  unfold evBuildSlice at h
  split at h
  · rename_i e he
    have hu := sliceQ_spec he
    split at h
    · rename_i z hz
      obtain ⟨ii, zv, z1, z2, z3, z4, z5, z6, z7, z8⟩ := zero_cells hz G
      split at h
      · rename_i hc
        obtain ⟨c1, c2, c3, c4⟩ := hc
        split at h
        · rename_i es hes
          cases h
          obtain ⟨cells, fl, news, r1, r2, r3, r4, r5, r6, r7⟩ := evElems_run ps qs.toList 0 es ((Array.range (n * P.cellsOf e)).map (zv.cells[· % zv.cells.size]!)) hp hes (by simp [c2])
          have hzr : (zeroValue e).run P w = .ok zv w := by simp [zeroValue, typeInfo, z1, z2]
          have hcl : cells.toList = news := by simpa using r7
          obtain ⟨G', i1, i2, i3, i4⟩ := hpre.inv.newImm e (fl := fl) (cells := cells) (by rw [hcl]; exact r6)
          refine ⟨G', w.alloc (.cells cells e), .slice (some ⟨w.heap.size, 0, none⟩) n n, ?_, ?_, i1, i2.le, hpre.ext.trans F.ie i2, hpre.loc.ext i2, fun _ _ h => absurd (congrFun (congrFun i4 _) _) h⟩
          · have h24 : ¬ (n * P.cellsOf e > 2 ^ 24) := by omega
            by_cases h0 : n * P.cellsOf e = 0
            · have hz0 : (Array.range 0 : Array Nat) = #[] := by rfl
              simp only [h0, hz0, Array.map_empty] at r1
              simp only [Instr.buildSlice, Sem.run_bind, run_underlying' P w t _ hu, Result.andThen_ok, run_sizeOf' P w e ii z1, h0, if_true, show ¬ (0 > 2 ^ 24) by omega, if_false, Sem.run_pure, Sem.run_ite, hz0, Array.map_empty, r1, newRow, run_newObj]
              rfl
            · simp only [Instr.buildSlice, Sem.run_bind, run_underlying' P w t _ hu, Result.andThen_ok, run_sizeOf' P w e ii z1, h24, h0, if_false, Sem.run_ite, hzr, r1, newRow, run_newObj, Sem.run_pure]
              rfl
          · have hlen : n = es.length := by omega
            rw [hlen]
            exact .slice es .clip fl _ 0 _ (P.cellsOf e) (Nat.le_refl _) r2 i3 rfl r5
        · cases h
      · cases h
    · cases h
  · cases h
end Go.Proofs.Ytemggoaefohliaa.AE
