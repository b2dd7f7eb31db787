/- Appends: the evaluator's is the model's. No condition. -/
import Derived.Test.YtemggoaefohliaaAeF
import Derived.Laws.AppendOwn
namespace Go.Proofs.Ytemggoaefohliaa.AE
set_option linter.unusedVariables false
set_option linter.unusedSimpArgs false
open Go Go.RowKit

section
variable {P : Program} {w : World}
theorem run_append_room' (ty tx e r : TypeId) (i : TypeInfo) (ts : Array TypeId) (h0 : ts[0]? = some ty) (h1 : ts[1]? = some tx) (ht : P.underlying ty = some (.slice e)) {dx : TypeDesc} (hx : P.underlying tx = some dx) (hni : ∀ k, dx ≠ .int k)
    (hi : P.info? e = some i) (b o sLen sCap n : Nat) (x : Value) (news : List Value) (hn : (Builtin.lenOf x).run P w = .ok n w) (hf : (Builtin.firstCells i.size n x).run P w = .ok news.toArray w)
    (hroom : sLen + n ≤ sCap) (ho : ∀ v ∈ news, oneV v = true) (hc : ∀ j, j < news.length → (w.cell? ⟨b, o + sLen * i.size + j, none⟩).isSome = true) (hz : ∀ j, j < news.length → w.frozen? ⟨b, o + sLen * i.size + j, none⟩ = false) :
    (Builtin.append_ ts r #[.slice (some ⟨b, o, none⟩) sLen sCap, x]).run P w = .ok (.slice (some ⟨b, o, none⟩) (sLen + n) sCap) (setL b (o + sLen * i.size) news w) := by
  have hst := run_storeCells_at P b (o + sLen * i.size) news 0 w ho (by simpa using hc) (by simpa using hz)
  have hm : (match dx with | .int _ => true | _ => false) = false := by
    cases dx <;> first | rfl | exact absurd rfl (hni _)
  simp only [Nat.add_zero] at hst
  unfold Builtin.append_
  simp [h0, h1, run_underlying' P w ty _ ht, run_underlying' P w tx _ hx, sizeOf, typeInfo, hi, hn, hroom, hf, add_none, hst]

theorem run_append_same' (ty tx e r : TypeId) (i : TypeInfo) (ts : Array TypeId) (h0 : ts[0]? = some ty) (h1 : ts[1]? = some tx) (ht : P.underlying ty = some (.slice e)) {dx : TypeDesc} (hx : P.underlying tx = some dx) (hni : ∀ k, dx ≠ .int k)
    (hi : P.info? e = some i) (base : Option Addr) (sLen sCap : Nat) (x : Value) (hn : (Builtin.lenOf x).run P w = .ok 0 w) (hf : (Builtin.firstCells i.size 0 x).run P w = .ok #[] w)
    (hroom : sLen ≤ sCap) : (Builtin.append_ ts r #[.slice base sLen sCap, x]).run P w = .ok (.slice base sLen sCap) w := by
  have hm : (match dx with | .int _ => true | _ => false) = false := by
    cases dx <;> first | rfl | exact absurd rfl (hni _)
  unfold Builtin.append_
  cases base with
  | none => simp [h0, h1, run_underlying' P w ty _ ht, run_underlying' P w tx _ hx, sizeOf, typeInfo, hi, hn, hroom, hf]
  | some a => simp [h0, h1, run_underlying' P w ty _ ht, run_underlying' P w tx _ hx, sizeOf, typeInfo, hi, hn, hroom, hf, storeCells]

theorem run_append_grow' (ty tx e r : TypeId) (i : TypeInfo) (z : Value) (ts : Array TypeId) (h0 : ts[0]? = some ty) (h1 : ts[1]? = some tx) (ht : P.underlying ty = some (.slice e)) {dx : TypeDesc} (hx : P.underlying tx = some dx) (hni : ∀ k, dx ≠ .int k)
    (hi : P.info? e = some i) (hz : i.zero = some z) (base : Option Addr) (sLen sCap n : Nat) (x : Value) (olds news : List Value) (hn : (Builtin.lenOf x).run P w = .ok n w) (hf : (Builtin.firstCells i.size n x).run P w.drew = .ok news.toArray w.drew)
    (hfo : (Builtin.firstCells i.size sLen (.slice base sLen sCap)).run P w.drew = .ok olds.toArray w.drew)
    (hg : sCap < sLen + n) (h63 : ((sLen + n : Nat) : Int) ≤ 9223372036854775807) (hfit : Builtin.nextslicecap (sLen + n) sCap * i.bytes ≤ 281474976710656) :
    (Builtin.append_ ts r #[.slice base sLen sCap, x]).run P w =
      .ok (.slice (some ⟨w.heap.size, 0, none⟩) (sLen + n) (grownCap w (sLen + n) sCap e))
        (w.drew.alloc (.cells (olds.toArray ++ news.toArray ++ Builtin.zeroCells z.cells (grownCap w (sLen + n) sCap e - (sLen + n))) e)) := by
  have hn' : ¬ (sLen + n ≤ sCap) := by omega
  have h63' : ¬ (9223372036854775807 < ((sLen : Int) + (n : Int))) := by omega
  have h48' : ¬ (281474976710656 < Builtin.nextslicecap (sLen + n) sCap * i.bytes) := by omega
  have hm : (match dx with | .int _ => true | _ => false) = false := by
    cases dx <;> first | rfl | exact absurd rfl (hni _)
  have hfo' := hfo
  unfold Builtin.append_
  simp [h0, h1, run_underlying' P w ty _ ht, run_underlying' P w tx _ hx, sizeOf, typeInfo, zeroValue, hi, hz, hn, hn', h63', h48', Question.forced, hf, hfo, newRow, grownCap]
  congr 2
  apply Array.ext'
  simp [List.append_assoc]
end

theorem zeroQ_spec {P : Program} {t : TypeId} {z : List AV} (h : zeroQ P t = some z) :
    ∃ i v, P.info? t = some i ∧ i.zero = some v ∧ z = v.cells.toList.map ofC0 ∧ (∀ a ∈ z, a.isJunk = false) ∧ v.cells.size = i.size ∧ z.length = P.cellsOf t := by
  unfold zeroQ at h
  split at h
  · rename_i i hi
    split at h
    · rename_i v hv
      split at h
      · rename_i hc
        cases h
        refine ⟨i, v, hi, hv, rfl, ?_, hc.2, ?_⟩
        · intro a ha
          have := List.all_eq_true.1 hc.1 a ha
          simpa using this
        · simp [Program.cellsOf, hi, hc.2]
      · cases h
    · cases h
  · cases h
theorem ofC0_cell {v : Value} (h : (ofC0 v).isJunk = false) : (ofC0 v).isCell = true := by
  unfold ofC0 at *
  split <;> first | rfl | (simp_all [AV.isJunk])
theorem zero_cells {P : Program} {t : TypeId} {z : List AV} (h : zeroQ P t = some z) (G : Gh) :
    ∃ i v, P.info? t = some i ∧ i.zero = some v ∧ v.cells.size = i.size ∧ z.length = P.cellsOf t ∧ P.cellsOf t = i.size ∧ VRL G z v.cells.toList ∧ (∀ x ∈ v.cells.toList, oneV x = true) ∧ (∀ x ∈ z, x.isCell = true) := by
  obtain ⟨i, v, h1, h2, rfl, h4, h5, h6⟩ := zeroQ_spec h
  have hr : VRL G (v.cells.toList.map ofC0) v.cells.toList := by
    have := VRL.map (G := G) (f := ofC0) (g := id) v.cells.toList fun x _ => ofC0_VR G x
    simpa using this
  have hcell : ∀ x ∈ v.cells.toList.map ofC0, x.isCell = true := fun x hx => by
    obtain ⟨y, hy, rfl⟩ := List.mem_map.1 hx
    exact ofC0_cell (h4 _ hx)
  refine ⟨i, v, h1, h2, h5, h6, by simp [Program.cellsOf, h1], hr, fun x hx => ?_, hcell⟩
  exact (ofC0_VR G x).one (hcell _ (List.mem_map.2 ⟨x, hx, rfl⟩))

/-- what is appended: how much it is, and its cells, in a world where what is known stands -/
theorem elems_src {P : Program} {G : Gh} {w : World} {x : AV} {v : Value} {xs : List AV} {sz : Nat} (hx : VR G x v) (h : elemsOf x = some xs) (hs : sizesOk sz xs = true) (hI : ∀ b o v, G.I b o = some v → w.cell? ⟨b, o, none⟩ = some v) :
    (Builtin.lenOf v).run P w = .ok xs.length w ∧ ∃ fl news, flatQ xs = some fl ∧ fl.length = xs.length * sz ∧ VRL G fl news ∧ (Builtin.firstCells sz xs.length v).run P w = .ok news.toArray w := by
  unfold elemsOf at h
  split at h
  · rename_i es tok
    cases h
    cases hx with
    | nils _ ad _ => exact ⟨rfl, [], [], rfl, by simp, .nil, by cases ad <;> simp [Builtin.firstCells, run_loadCells_zero]⟩
    | slice _ _ fl b o cap sz' k1 k2 k3 k4 k5 =>
      obtain ⟨vs, v1, v2⟩ := k3.vals
      have hl := flatQ_len' k2 hs
      have hlv := v1.length
      refine ⟨by simp [Builtin.lenOf], fl, vs, k2, hl, v1, ?_⟩
      exact run_firstCells_some (P := P) w sz xs.length ⟨b, o, none⟩ _ _ vs (by rw [hlv, hl]) fun j u hj => by rw [add_none]; exact hI _ _ _ (v2 j u hj)
  · rename_i s
    cases h
    obtain ⟨p, rfl, rfl⟩ := hx.inv_str
    have hlen : p.data.toList.length = p.size := by rw [Array.length_toList]; rfl
    have hfl : ∀ l : List UInt8, flatQ (l.map fun b => AV.int .u8 b.toNat) = some (l.map fun b => AV.int .u8 b.toNat) := fun l => by
      induction l with
      | nil => rfl
      | cons a l ih => simp [flatQ, AV.cells?, ih]
    refine ⟨by simp [Builtin.lenOf, hlen], _, p.data.toList.map (fun b => Value.int .u8 b.toNat), hfl _, ?_, VRL.map _ fun b _ => .int _ _, ?_⟩
    · cases hp : p.data.toList with
      | nil => simp
      | cons a l =>
        rw [hp] at hs
        simp [sizesOk, AV.cells?] at hs
        simp [← hs.1]
    · simp only [Builtin.firstCells, List.length_map, hlen, Sem.run_pure]
      have hx : p.extract 0 p.size = p := by simp
      rw [hx]
      congr 1
      apply Array.ext'
      simp
  · cases h

/-- a new row whose first cells stay as they are, with a token at its frontier -/
theorem Inv.newTok {w0 : World} {B : Nat} {G : Gh} {S : St} {w : World} (hi : Inv w0 B G S w) (cells : Array Value) (ty : TypeId) {fl : List AV} {vs : List Value} (hv : VRL G fl vs)
    (hc : ∀ (j : Nat) v, vs[j]? = some v → cells[j]? = some v) (t : Nat) (T' : List Nat) (h1 : T'[t]? = some fl.length) (h2 : ∀ u, u ≠ t → T'[u]? = S.T[u]?) (h3 : ∀ n, S.T[t]? = some n → n < fl.length) :
    ∃ G', Inv w0 B G' { S with T := T' } (w.alloc (.cells cells ty)) ∧ Ext G w G' (w.alloc (.cells cells ty)) ∧ VRI G' fl w.heap.size 0 ∧ G'.nu = G.nu ∧ G'.fr t = some fl.length ∧ G'.tau t = some (w.heap.size, cells.size) := by
  let G' : Gh := { G with I := fun b o => if b = w.heap.size then vs[o]? else G.I b o, tau := fun u => if u = t then some (w.heap.size, cells.size) else G.tau u, fr := fun u => if u = t then some fl.length else G.fr u }
  have hlen := hv.length
  have hIlt : ∀ b o v, G.I b o = some v → b < w.heap.size := fun b o v h => World.block_lt_of_cell? w _ (hi.imm b o v h)
  have hI : ∀ b o v, G.I b o = some v → G'.I b o = some v := fun b o v h => by
    have := hIlt b o v h
    show (if b = w.heap.size then vs[o]? else G.I b o) = some v
    rw [if_neg (by omega)]; exact h
  have hIn : ∀ b o, b < w.heap.size → G'.I b o = G.I b o := fun b o h => by
    show (if b = w.heap.size then vs[o]? else G.I b o) = _
    rw [if_neg (by omega)]
  have le : Gle G G' := by
    refine ⟨hI, fun _ _ h => h, fun _ _ _ h => h, fun u n h => ?_⟩
    by_cases hu : u = t
    · subst hu
      have hn := h3 n (by rw [← hi.fr]; exact h)
      exact ⟨fl.length, by simp [G'], by omega, fun e => by omega⟩
    · exact ⟨n, by simp [G', hu, h], Nat.le_refl _, fun _ => by simp [G', hu]⟩
  have htau : ∀ u x, G'.tau u = some x → (u = t ∧ x = (w.heap.size, cells.size)) ∨ (u ≠ t ∧ G.tau u = some x) := fun u x h => by
    by_cases hu : u = t
    · have : G'.tau u = some (w.heap.size, cells.size) := by simp [G', hu]
      rw [h] at this; cases this; exact .inl ⟨hu, rfl⟩
    · exact .inr ⟨hu, by simpa [G', hu] using h⟩
  have hlt : ∀ u, u < S.T.length → u < T'.length := fun u hu => by
    by_cases hut : u = t
    · subst hut; exact (List.getElem?_eq_some_iff.1 h1).1
    · have := h2 u hut
      rw [List.getElem?_eq_getElem hu] at this
      exact (List.getElem?_eq_some_iff.1 this).1
  have hblk : ∀ u b m, G.tau u = some (b, m) → b < w.heap.size := fun u b m h => by
    obtain ⟨b', m', _, _, _, k1, _, k3, _⟩ := hi.tok u _ (List.getElem?_eq_getElem (hi.taud u _ h))
    rw [h] at k1; cases k1; exact lt_of_heap k3
  have hphi : ∀ e b, G.phi e = some b → b < w.heap.size := fun e b h => by
    obtain ⟨b', _, k1, _, k3, _⟩ := hi.box e _ (List.getElem?_eq_getElem (hi.phid e _ h))
    rw [h] at k1; cases k1; exact lt_of_heap k3
  refine ⟨G', ⟨hi.below.alloc hi.base _, Nat.le_trans hi.base (by simp), fun b o v h => ?_, fun u => ?_, fun e bx h => ?_, hi.phid, hi.phij, fun u n h => ?_, fun u x h => ?_, fun u u' b m m' k1 k2 => ?_⟩, ⟨le, by simp, fun _ _ h => .inl h, fun u x h => ?_, fun b o v h => ?_, fun b hb _ _ => heap_alloc_lt w _ hb⟩, ?_, rfl, by simp [G'], by simp [G']⟩
  · by_cases hb : b = w.heap.size
    · subst hb
      have h' : vs[o]? = some v := by simpa [G'] using h
      rw [World.cell?_alloc_new]; exact hc o v h'
    · have h' : G.I b o = some v := by simpa [G', hb] using h
      rw [World.cell?_alloc_lt w _ _ (hIlt b o v h')]
      exact hi.imm b o v h'
  · by_cases hu : u = t
    · subst hu; simp [G', h1]
    · simp [G', hu, h2 u hu, hi.fr]
  · obtain ⟨b, vs', k1, k2, k3, k4, k5, k6, k7, k8⟩ := hi.box e bx h
    exact ⟨b, vs', k1, k2, by rw [heap_alloc_lt w _ (lt_of_heap k3)]; exact k3, k4.mono le, fun o => by rw [hIn b o (lt_of_heap k3)]; exact k5 o, k6, k7, k8⟩
  · by_cases hu : u = t
    · subst hu
      rw [h1] at h; cases h
      refine ⟨w.heap.size, cells.size, cells, ty, (0, 0), by simp [G'], hi.base, heap_alloc_at w _, Nat.le_refl _, fun o ho => ?_, fun o _ => by simp, fun e he => ?_⟩
      · show (if w.heap.size = w.heap.size then vs[o]? else _) = none
        rw [if_pos rfl, List.getElem?_eq_none (by omega)]
      · have := hphi e _ he; omega
    · rw [h2 u hu] at h
      obtain ⟨b, m, vs', ty', fz, k1, k2, k3, k4, k5, k6, k7⟩ := hi.tok u n h
      refine ⟨b, m, vs', ty', fz, by simp [G', hu, k1], k2, by rw [heap_alloc_lt w _ (lt_of_heap k3)]; exact k3, k4, fun o ho => by rw [hIn b o (lt_of_heap k3)]; exact k5 o ho, fun o ho => ?_, k7⟩
      rw [World.frozen?_of_block (w := w) (heap_alloc_lt w _ (lt_of_heap k3))]; exact k6 o ho
  · rcases htau u x h with ⟨rfl, _⟩ | ⟨_, h⟩
    · exact (List.getElem?_eq_some_iff.1 h1).1
    · exact hlt u (hi.taud u x h)
  · rcases htau u _ k1 with ⟨e1, e2⟩ | ⟨e1, e2⟩ <;> rcases htau u' _ k2 with ⟨f1, f2⟩ | ⟨f1, f2⟩
    · rw [e1, f1]
    · cases e2; have := hblk _ _ _ f2; omega
    · cases f2; have := hblk _ _ _ e2; omega
    · exact hi.tauj u u' b m m' e2 f2
  · rcases htau u x h with ⟨_, rfl⟩ | ⟨_, h⟩
    · exact .inr (Nat.le_refl _)
    · exact .inl h
  · by_cases hb : b = w.heap.size
    · exact .inr (.inl (by omega))
    · exact .inl (by simpa [G', hb] using h)
  · exact VRI.of_vals (hv.mono le) fun j v hj => by
      show (if w.heap.size = w.heap.size then vs[0 + j]? else _) = some v
      rw [if_pos rfl, Nat.zero_add]; exact hj

/-- what lies behind the frontier is written, and the frontier moves on -/
theorem Inv.pushTok {w0 : World} {B : Nat} {G : Gh} {S : St} {w : World} (hi : Inv w0 B G S w) {t b m pos : Nat} {fl : List AV} {vs : List Value} (hv : VRL G fl vs) (ho : fl ≠ [])
    (ht : S.T[t]? = some pos) (hb : G.tau t = some (b, m)) (hm : pos + fl.length ≤ m) :
    (∀ j, j < vs.length → (w.cell? ⟨b, pos + j, none⟩).isSome = true) ∧ (∀ j, j < vs.length → w.frozen? ⟨b, pos + j, none⟩ = false) ∧
    ∃ G', Inv w0 B G' { S with T := S.T.set t (pos + fl.length) } (setL b pos vs w) ∧ Gle G G' ∧ G'.nu = G.nu ∧ G'.phi = G.phi ∧ G'.tau = G.tau ∧ VRI G' fl b pos ∧ G'.fr t = some (pos + fl.length) ∧
      (∀ x o v, G'.I x o = some v → G.I x o = some v ∨ (x = b ∧ pos ≤ o)) := by
  obtain ⟨b', m', cs, ty, fz, k1, k2, k3, k4, k5, k6, k7⟩ := hi.tok t pos ht
  rw [hb] at k1; cases k1
  have hlen := hv.length
  have hpl : 0 < fl.length := List.length_pos_iff.2 ho
  let G' : Gh := { G with I := fun x o => if x = b ∧ pos ≤ o ∧ o < pos + vs.length then vs[o - pos]? else G.I x o, fr := fun u => if u = t then some (pos + fl.length) else G.fr u }
  have hI : ∀ x o v, G.I x o = some v → G'.I x o = some v := fun x o v h => by
    show (if x = b ∧ pos ≤ o ∧ o < pos + vs.length then vs[o - pos]? else G.I x o) = some v
    rw [if_neg]
    · exact h
    · rintro ⟨rfl, h1, _⟩; rw [k5 o h1] at h; cases h
  have hIn : ∀ x o, x ≠ b → G'.I x o = G.I x o := fun x o h => by
    show (if x = b ∧ pos ≤ o ∧ o < pos + vs.length then vs[o - pos]? else G.I x o) = _
    rw [if_neg (fun h' => h h'.1)]
  have hIo : ∀ o, o < pos → G'.I b o = G.I b o := fun o h => by
    show (if b = b ∧ pos ≤ o ∧ o < pos + vs.length then vs[o - pos]? else G.I b o) = _
    rw [if_neg (fun h' => by omega)]
  have hTt : t < S.T.length := hi.taud t _ hb
  have le : Gle G G' := by
    refine ⟨hI, fun _ _ h => h, fun _ _ _ h => h, fun u n h => ?_⟩
    by_cases hu : u = t
    · subst hu
      rw [hi.fr, ht] at h; cases h
      exact ⟨pos + fl.length, by simp [G'], by omega, fun e => by omega⟩
    · exact ⟨n, by simp [G', hu, h], Nat.le_refl _, fun _ => rfl⟩
  have hsame := setL_heap_same vs pos w cs ty fz k3
  have hputl := putL_toList vs pos cs (by omega)
  refine ⟨fun j hj => ?_, fun j hj => k6 _ (by omega), G', ⟨setL_below k2 vs pos w hi.below, by rw [setL_size]; exact hi.base, fun x o v h => ?_, fun u => ?_, fun e bx h => ?_, hi.phid, hi.phij, fun u n h => ?_, fun u x h => ?_, hi.tauj⟩, le, rfl, rfl, rfl, ?_, by simp [G'], fun x o v h => ?_⟩
  · rw [cell_of_heap k3]; simp; omega
  · by_cases hx : x = b
    · subst hx
      rw [cell_of_heap hsame]
      by_cases hr : pos ≤ o ∧ o < pos + vs.length
      · have h' : vs[o - pos]? = some v := by simpa [G', hr.1, hr.2] using h
        have : (putL pos vs cs)[o]? = (putL pos vs cs).toList[o]? := by simp
        rw [this, hputl, List.getElem?_append_right (by simp; omega), List.getElem?_append_left (by simp; omega)]
        have e : o - (List.take pos cs.toList).length = o - pos := by simp; omega
        rw [e]; exact h'
      · have h' : G.I x o = some v := by
          have : G'.I x o = G.I x o := by
            show (if x = x ∧ pos ≤ o ∧ o < pos + vs.length then vs[o - pos]? else G.I x o) = _
            rw [if_neg (fun h' => hr ⟨h'.2.1, h'.2.2⟩)]
          rw [← this]; exact h
        have hlt : o < pos := by
          rcases Nat.lt_or_ge o pos with h1 | h1
          · exact h1
          · rw [k5 o h1] at h'; cases h'
        have hc := hi.imm x o v h'
        rw [cell_of_heap k3] at hc
        have : (putL pos vs cs)[o]? = (putL pos vs cs).toList[o]? := by simp
        rw [this, hputl, List.getElem?_append_left (by simp; omega), List.getElem?_take, if_pos hlt]
        simpa using hc
    · rw [hIn x o hx] at h
      rw [World.cell?_of_block (w := w) (setL_heap_other vs pos w x hx)]
      exact hi.imm x o v h
  · by_cases hu : u = t
    · subst hu; simp [G', hTt]
    · simp [G', hu, hi.fr, List.getElem?_set_ne (Ne.symm hu)]
  · obtain ⟨x, vs', x1, x2, x3, x4, x5, x6, x7, x8⟩ := hi.box e bx h
    have hne : x ≠ b := fun e' => k7 e (by rw [← e']; exact x1)
    exact ⟨x, vs', x1, x2, by rw [setL_heap_other vs pos w x hne]; exact x3, x4.mono le, fun o => by rw [hIn x o hne]; exact x5 o, x6, x7, x8⟩
  · by_cases hu : u = t
    · subst hu
      rw [List.getElem?_set_self hTt] at h; cases h
      refine ⟨b, m, _, ty, fz, hb, k2, hsame, by rw [putL_size]; exact k4, fun o ho => ?_, fun o ho => ?_, k7⟩
      · show (if b = b ∧ pos ≤ o ∧ o < pos + vs.length then vs[o - pos]? else G.I b o) = none
        rw [if_neg (fun h' => by omega)]
        exact k5 o (by omega)
      · have : (setL b pos vs w).frozen? ⟨b, o, none⟩ = w.frozen? ⟨b, o, none⟩ := by simp [World.frozen?, hsame, k3]
        rw [this]; exact k6 o ho
    · rw [List.getElem?_set_ne (Ne.symm hu)] at h
      obtain ⟨x, m', vs', ty', fz', x1, x2, x3, x4, x5, x6, x7⟩ := hi.tok u n h
      have hne : x ≠ b := fun e' => hu (hi.tauj u t b m' m (by rw [← e']; exact x1) hb)
      have hh := setL_heap_other vs pos w x hne
      exact ⟨x, m', vs', ty', fz', x1, x2, by rw [hh]; exact x3, x4, fun o ho => by rw [hIn x o hne]; exact x5 o ho, fun o ho => by rw [World.frozen?_of_block (w := w) hh]; exact x6 o ho, x7⟩
  · have := hi.taud u x h; simpa using this
  · exact VRI.of_vals (hv.mono le) fun j v hj => by
      have hj' := (List.getElem?_eq_some_iff.1 hj).1
      show (if b = b ∧ pos ≤ pos + j ∧ pos + j < pos + vs.length then vs[pos + j - pos]? else _) = some v
      rw [if_pos ⟨rfl, by omega, by omega⟩, show pos + j - pos = j by omega]; exact hj
  · by_cases hc : x = b ∧ pos ≤ o ∧ o < pos + vs.length
    · exact .inr ⟨hc.1, hc.2.1⟩
    · exact .inl (by
        have : G'.I x o = G.I x o := by
          show (if x = b ∧ pos ≤ o ∧ o < pos + vs.length then vs[o - pos]? else G.I x o) = _
          rw [if_neg hc]
        rw [← this]; exact h)

theorem Inv.drew {w0 : World} {B : Nat} {G : Gh} {S : St} {w : World} (hi : Inv w0 B G S w) : Inv w0 B G S w.drew :=
  ⟨hi.below.drew, hi.base, hi.imm, hi.fr, hi.box, hi.phid, hi.phij, hi.tok, hi.taud, hi.tauj⟩
theorem LInv.drew {B : Nat} {G : Gh} {w : World} {dep : Nat} {b : Nat → Nat × List AV} (h : LInv B G w dep b) : LInv B G w.drew dep b := ⟨h.box, h.inj⟩
theorem Ext.drew {G G' : Gh} {w w' : World} (h : Ext G w G' w') : Ext G w G' w'.drew := ⟨h.le, h.size, h.phi, h.tau, h.I, h.keep⟩
theorem Pre.drew {F : Fix} {fs : FS} {G : Gh} {w : World} (h : Pre F fs G w) : Pre F fs G w.drew := ⟨h.inv.drew, h.ext.drew, h.loc.drew⟩

/-- the values of a row's cells -/
theorem VRL.app_get {G : Gh} {x y : List AV} {a b : List Value} (h : VRL G x a) (k : VRL G y b) {z : List Value} (j : Nat) (v : Value) (hj : (a ++ b)[j]? = some v) : (a.toArray ++ b.toArray ++ z.toArray)[j]? = some v := by
  have : (a.toArray ++ b.toArray ++ z.toArray)[j]? = (a ++ b ++ z)[j]? := by simp
  rw [this, List.getElem?_append_left (List.getElem?_eq_some_iff.1 hj).1]
  exact hj

theorem evAppend_run {F : Fix} {P : Program} {fs : FS} {G : Gh} {w : World} {i : Nat} {ts : Array TypeId} {rt : TypeId} {s x r : AV} {sv xv : Value} {S' : St} (hp : Pre F fs G w) (hs : VR G s sv) (hx : VR G x xv)
    (h : evAppend P ts.toList s x fs.S = some (r, S')) :
    ∃ G' w' v, (Builtin.append_ ts rt #[sv, xv]).run P w = .ok v w' ∧ Post F fs.c i G fs.b S' r G' w' v := by
  unfold evAppend at h
  split at h
  · rename_i ty tx tl hts
    have h0 : ts[0]? = some ty := by rw [← Array.getElem?_toList, hts]; rfl
    have h1 : ts[1]? = some tx := by rw [← Array.getElem?_toList, hts]; rfl
    split at h
    · rename_i e he hu
      have ht := sliceQ_spec he
      obtain ⟨dx, hdx, hni⟩ : ∃ dx, P.underlying tx = some dx ∧ ∀ k, dx ≠ .int k := by
        split at hu
        · cases hu
        · cases hu
        · rename_i d hne hd
          exact ⟨d, hd, fun k hk => hne k hk⟩
      split at h
      · rename_i es tok xs hxs
        split at h
        · cases h
        · rename_i z hz
          obtain ⟨ii, zv, z1, z2, z3, z4, z5, z6, z7, z8⟩ := zero_cells hz G
          split at h
          · rename_i hc
            obtain ⟨c1, c2, c3, c4, c5, c6, c7⟩ := hc
            have himm := hp.inv.imm
            obtain ⟨n1, flx, news, f1, f2, f3, f4⟩ := elems_src (P := P) hx hxs c7 himm
            obtain ⟨_, flx', news', f1', f2', f3', f4'⟩ := elems_src (P := P) (w := w.drew) hx hxs c7 himm
            have hnl := f3.length
            have hb1 : ii.bytes = P.bytesOf e := by simp [Program.bytesOf, z1]
            split at h
            · rename_i hnil
              subst hnil
              cases h
              obtain ⟨ad, cap, rfl, hcap⟩ : ∃ ad cap, sv = .slice ad es.length cap ∧ es.length ≤ cap := by
                cases hs with
                | nils _ ad _ => exact ⟨ad, 0, rfl, Nat.le_refl _⟩
                | slice _ _ fl b o cap sz k1 k2 k3 k4 k5 => exact ⟨_, cap, rfl, k1⟩
              simp [flatQ] at f1
              subst f1
              cases f3
              exact ⟨G, w, _, run_append_same' ty tx e rt ii ts h0 h1 ht hdx hni z1 ad es.length cap xv n1 (by rw [← z5]; exact f4) hcap, Post.same hp hs⟩
            · rename_i hne
              have hxpos : 0 < xs.length := List.length_pos_iff.2 hne
              have hszpos : 0 < P.cellsOf e := by omega
              have c45 : es.length + xs.length ≤ 70368744177664 := Nat.le_trans (Nat.le_mul_of_pos_right _ hszpos) c5
              have hflx : 0 < flx.length := by rw [f2]; exact Nat.mul_pos hxpos hszpos
              rw [f1] at f1'; cases f1'
              split at h
              · -- no room
                cases h
                obtain ⟨ad, fl, olds, rfl, g1, g2, g3, g4⟩ : ∃ ad fl olds, sv = .slice ad es.length es.length ∧ flatQ es = some fl ∧ fl.length = es.length * P.cellsOf e ∧ VRL G fl olds ∧
                    (Builtin.firstCells ii.size es.length (.slice ad es.length es.length)).run P w.drew = .ok olds.toArray w.drew := by
                  cases hs with
                  | nils _ ad _ => exact ⟨ad, [], [], rfl, rfl, by simp, .nil, by cases ad <;> simp [Builtin.firstCells, run_loadCells_zero]⟩
                  | slice _ _ fl b o cap sz k1 k2 k3 k4 k5 =>
                    simp only [TokR] at k4
                    subst k4
                    obtain ⟨vs, v1, v2⟩ := k3.vals
                    have hl := flatQ_len' k2 c6
                    have hlv := v1.length
                    exact ⟨_, fl, vs, rfl, k2, hl, v1, run_firstCells_some (P := P) w.drew ii.size es.length ⟨b, o, none⟩ _ _ vs (by rw [hlv, hl, z5]) fun j u hj => by rw [add_none]; exact himm _ _ _ (v2 j u hj)⟩
                have holl := g3.length
                have hrun := run_append_grow' (P := P) (w := w) ty tx e rt ii zv ts h0 h1 ht hdx hni z1 z2 ad es.length es.length xs.length xv olds news' n1 (by rw [← z5]; exact f4') g4 (by omega) (by omega)
                  (growslice_fits (by omega) (by rw [hb1]; omega))
                have hvv := g3.append f3'
                have hflen : (fl ++ flx).length = (es.length + xs.length) * P.cellsOf e := by simp [g2, f2, Nat.add_mul]
                obtain ⟨G', i1, i2, i3, i4, i5, i6⟩ := hp.inv.drew.newTok (olds.toArray ++ news'.toArray ++ Builtin.zeroCells zv.cells (grownCap w (es.length + xs.length) es.length e - (es.length + xs.length))) e hvv
                  (fun j v hj => by
                    have := VRL.app_get g3 f3' (z := (Builtin.zeroCells zv.cells (grownCap w (es.length + xs.length) es.length e - (es.length + xs.length))).toList) j v hj
                    simpa using this) fs.S.T.length (fs.S.T ++ [(es.length + xs.length) * P.cellsOf e]) (by simp [hflen]) (fun u hu => by
                    rcases Nat.lt_or_ge u fs.S.T.length with h' | h'
                    · rw [List.getElem?_append_left h']
                    · rw [List.getElem?_append_right h', List.getElem?_eq_none h', List.getElem?_eq_none (by simp; omega)]) (fun n hn => by simp at hn)
                refine ⟨G', _, _, hrun, ?_, i1, i2.le, hp.drew.ext.trans F.ie i2, hp.drew.loc.ext i2, fun _ _ h => absurd (congrFun (congrFun i4 _) _) h⟩
                have hge := grownCap_ge w (es.length + xs.length) es.length e
                have hlen : (es ++ xs).length = es.length + xs.length := by simp
                have hv : VR G' (.slice (es ++ xs) (.own fs.S.T.length ((es.length + xs.length) * P.cellsOf e))) (.slice (some ⟨w.drew.heap.size, 0, none⟩) (es ++ xs).length (grownCap w (es.length + xs.length) es.length e)) := by
                  refine .slice _ _ (fl ++ flx) _ 0 _ (P.cellsOf e) (by rw [hlen]; exact hge) (flatQ_append g1 f1) i3 ?_ (by rw [sizesOk_append, c6, c7]; rfl)
                  refine ⟨_, P.cellsOf e, by simp [hne], hszpos, i5, by omega, by rw [hflen, hlen], fun _ => ⟨_, rfl, i6, hflen, ?_⟩⟩
                  simp only [Array.size_append, size_zeroCells, List.size_toArray, holl, f3'.length, g2, f2, z3, ← z5]
                  have : grownCap w (es.length + xs.length) es.length e = es.length + xs.length + (grownCap w (es.length + xs.length) es.length e - (es.length + xs.length)) := by omega
                  have e2 := congrArg (· * P.cellsOf e) this
                  simp only [Nat.add_mul] at e2
                  omega
                rw [hlen] at hv
                exact hv
              · -- owned
                rename_i k pos
                split at h
                · rename_i hT
                  cases h
                  cases hs with
                  | nils _ _ htok => exact absurd rfl (htok _ _)
                  | slice _ _ fl b o cap sz k1 k2 k3 k4 k5 =>
                    obtain ⟨n, sz', t1, t2, t3, t4, t5, t6⟩ := k4
                    rw [hp.inv.fr, hT] at t3; cases t3
                    obtain ⟨m, rfl, t7, t8, t9⟩ := t6 rfl
                    have hl := flatQ_len' k2 c6
                    have hesz : sz' = P.cellsOf e := by
                      have : es.length * sz' = es.length * P.cellsOf e := by rw [← t5, hl]
                      exact Nat.eq_of_mul_eq_mul_left (List.length_pos_iff.2 t1) this
                    subst hesz
                    have hlen : (es ++ xs).length = es.length + xs.length := by simp
                    have hflen : (fl ++ flx).length = pos + xs.length * P.cellsOf e := by simp [t8, f2]
                    by_cases hroom : es.length + xs.length ≤ cap
                    · have hcm : (es.length + xs.length) * P.cellsOf e ≤ cap * P.cellsOf e := Nat.mul_le_mul_right _ hroom
                      rw [Nat.add_mul] at hcm
                      obtain ⟨p1, p2, G', p3, p4, p5, p6, p7, p8, p9, p10⟩ := hp.inv.pushTok f3 (List.length_pos_iff.1 hflx) hT t7 (by rw [f2]; omega)
                      have hposl : 0 + es.length * ii.size = pos := by rw [← z5, ← hl, t8]; omega
                      have hrun := run_append_room' (P := P) (w := w) ty tx e rt ii ts h0 h1 ht hdx hni z1 b 0 es.length cap xs.length xv news n1 (by rw [← z5]; exact f4) hroom
                        (fun v hv => by
                          obtain ⟨j, hj⟩ := List.mem_iff_getElem?.1 hv
                          have hjl := (List.getElem?_eq_some_iff.1 hj).1
                          obtain ⟨u, hu1, hu2⟩ := f3.get (List.getElem?_eq_getElem (show j < flx.length by omega))
                          rw [hj] at hu1; cases hu1
                          exact hu2.one (flatQ_isCell f1 _ (List.getElem_mem _))) (by rw [hposl]; exact p1) (by rw [hposl]; exact p2)
                      rw [hposl] at hrun
                      rw [f2] at p3 p9
                      have hext : Ext F.Ge F.we G' (setL b pos news w) := by
                        have e0 := hp.ext
                        refine ⟨e0.le.trans p4, by rw [setL_size]; exact e0.size, fun i' b' h' => e0.phi i' b' (by rw [← p6]; exact h'), fun t' x' h' => e0.tau t' x' (by rw [← p7]; exact h'), fun b' o' v' h' => ?_, fun b' hb' q1 q2 => ?_⟩
                        · rcases p10 b' o' v' h' with h' | ⟨rfl, h'⟩
                          · exact e0.I b' o' v' h'
                          · rcases e0.tau k _ t7 with h'' | h''
                            · have hk := F.ie.taud k _ h''
                              have hf : F.Ge.fr k = some (F.Se.T[k]) := by rw [F.ie.fr]; simp [hk]
                              obtain ⟨n', e5, e6, _⟩ := e0.le.fr k _ hf
                              rw [hp.inv.fr, hT] at e5; cases e5
                              exact .inr (.inr ⟨k, m, _, h'', hf, by omega⟩)
                            · exact .inr (.inl h'')
                        · have hbne : b' ≠ b := fun hbb => by
                            subst hbb
                            rcases e0.tau k _ t7 with h'' | h''
                            · exact q2 k m h''
                            · simp at h''; omega
                          rw [setL_heap_other news pos w b' hbne]
                          exact e0.keep b' hb' q1 q2
                      have hloc : LInv F.we.heap.size G' (setL b pos news w) F.cx.dep fs.b := by
                        have hl0 := hp.loc
                        refine ⟨fun d hd => ?_, fun d d' k' y1 y2 y3 y4 => hl0.inj d d' k' y1 y2 (by rw [← p5]; exact y3) (by rw [← p5]; exact y4)⟩
                        obtain ⟨q, vs', ty', q1, q2, q3, q4, q5, q6, q7, q8, q9⟩ := hl0.box d hd
                        have hqb : q ≠ b := fun hqq => q9 k m (by rw [hqq]; exact t7)
                        refine ⟨q, vs', ty', by rw [p5]; exact q1, q2, by rw [setL_heap_other news pos w q hqb]; exact q3, q4.mono p4, fun o => ?_, q6, q7, fun i' => by rw [p6]; exact q8 i', fun t' m' => by rw [p7]; exact q9 t' m'⟩
                        cases hI : G'.I q o with
                        | none => rfl
                        | some v =>
                          rcases p10 q o v hI with h' | ⟨h', _⟩
                          · rw [q5 o] at h'; cases h'
                          · exact absurd h' hqb
                      refine ⟨G', _, _, hrun, ?_, p3, p4, hext, hloc, fun _ _ h => absurd (congrFun (congrFun p5 _) _) h⟩
                      have hv : VR G' (.slice (es ++ xs) (.own k (pos + xs.length * P.cellsOf e))) (.slice (some ⟨b, 0, none⟩) (es ++ xs).length cap) := by
                        refine .slice _ _ (fl ++ flx) b 0 cap (P.cellsOf e) (by rw [hlen]; exact hroom) (flatQ_append k2 f1) ((k3.mono p4).append (by rw [Nat.zero_add, t8]; exact p8)) ?_ (by rw [sizesOk_append, c6, c7]; rfl)
                        exact ⟨_, P.cellsOf e, by simp [hne], hszpos, p9, by omega, by rw [hflen, hlen, Nat.add_mul]; omega, fun _ => ⟨m, rfl, by rw [p7]; exact t7, hflen, t9⟩⟩
                      rw [hlen] at hv
                      exact hv
                    · obtain ⟨vs, v1, v2⟩ := k3.vals
                      have hlv := v1.length
                      have hfo := run_firstCells_some (P := P) w.drew ii.size es.length ⟨b, 0, none⟩ es.length cap vs (by rw [hlv, hl, z5]) fun j u hj => by rw [add_none]; exact himm _ _ _ (v2 j u hj)
                      have hrun := run_append_grow' (P := P) (w := w) ty tx e rt ii zv ts h0 h1 ht hdx hni z1 z2 (some ⟨b, 0, none⟩) es.length cap xs.length xv vs news' n1 (by rw [← z5]; exact f4') hfo (by omega) (by omega)
                        (growslice_fits (by omega) (by rw [hb1]; omega))
                      have hvv := v1.append f3'
                      obtain ⟨G', i1, i2, i3, i4, i5, i6⟩ := hp.inv.drew.newTok (vs.toArray ++ news'.toArray ++ Builtin.zeroCells zv.cells (grownCap w (es.length + xs.length) cap e - (es.length + xs.length))) e hvv
                        (fun j v hj => by
                          have := VRL.app_get v1 f3' (z := (Builtin.zeroCells zv.cells (grownCap w (es.length + xs.length) cap e - (es.length + xs.length))).toList) j v hj
                          simpa using this) k (fs.S.T.set k (pos + xs.length * P.cellsOf e)) (by rw [hflen, List.getElem?_set_self (List.getElem?_eq_some_iff.1 hT).1]) (fun u hu => by
                          rw [List.getElem?_set_ne (Ne.symm hu)]) (fun n hn => by rw [hT] at hn; cases hn; rw [hflen, ← f2]; omega)
                      refine ⟨G', _, _, hrun, ?_, i1, i2.le, hp.drew.ext.trans F.ie i2, hp.drew.loc.ext i2, fun _ _ h => absurd (congrFun (congrFun i4 _) _) h⟩
                      have hge := grownCap_ge w (es.length + xs.length) cap e
                      have hv : VR G' (.slice (es ++ xs) (.own k (pos + xs.length * P.cellsOf e))) (.slice (some ⟨w.drew.heap.size, 0, none⟩) (es ++ xs).length (grownCap w (es.length + xs.length) cap e)) := by
                        refine .slice _ _ (fl ++ flx) _ 0 _ (P.cellsOf e) (by rw [hlen]; exact hge) (flatQ_append k2 f1) i3 ?_ (by rw [sizesOk_append, c6, c7]; rfl)
                        refine ⟨_, P.cellsOf e, by simp [hne], hszpos, i5, by omega, by rw [hflen, hlen, Nat.add_mul]; omega, fun _ => ⟨_, rfl, i6, hflen, ?_⟩⟩
                        simp only [Array.size_append, size_zeroCells, List.size_toArray, hlv, f3'.length, hl, f2, z3, ← z5]
                        have : grownCap w (es.length + xs.length) cap e = es.length + xs.length + (grownCap w (es.length + xs.length) cap e - (es.length + xs.length)) := by omega
                        have e2 := congrArg (· * P.cellsOf e) this
                        simp only [Nat.add_mul] at e2
                        omega
                      rw [hlen] at hv
                      exact hv
                · cases h
              · cases h
          · cases h
      · cases h
    · cases h
  · cases h
end Go.Proofs.Ytemggoaefohliaa.AE
