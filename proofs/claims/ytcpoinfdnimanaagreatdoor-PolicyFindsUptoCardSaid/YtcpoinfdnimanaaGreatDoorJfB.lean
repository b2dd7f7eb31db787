/- Joined: AeG, AeH, AeT, AeU, AeV, AeX, AeY, AeI, AeJ. No condition beyond those of its lemmas. -/
import Derived.Test.YtcpoinfdnimanaaGreatDoorJfA
import Derived.Laws.AppendOwn
import Derived.Laws.StructEq
import Derived.Orders
/- Appends: the evaluator's is the model's. No condition. -/
namespace Go.Proofs.YtcpoinfdnimanaaGreatDoor.AE
set_option linter.unusedVariables false
set_option linter.unusedSimpArgs false
open Go Go.RowKit

section
variable {P : Program} {w : World}
theorem run_append_room' (ty tx e r : TypeId) (i : TypeInfo) (ts : Array TypeId) (h0 : ts[0]? = some ty) (h1 : ts[1]? = some tx) (ht : P.underlying ty = some (.slice e)) {dx : TypeDesc} (hx : P.underlying tx = some dx) (hni : ∀ k, dx ≠ .int k)
    (hi : P.info? e = some i) (b o sLen sCap n : Nat) (x : Value) (news : List Value) (hn : (Builtin.lenOf x).run P w = .ok n w) (hf : (Builtin.firstCells i.size n x).run P w = .ok news.toArray w)
    (hroom : sLen + n ≤ sCap) (ho : ∀ v ∈ news, oneV v = true) (hc : ∀ j, j < news.length → (w.cell? ⟨b, o + sLen * i.size + j, none⟩).isSome = true) (hz : ∀ j, j < news.length → w.frozen? ⟨b, o + sLen * i.size + j, none⟩ = false) :
    (Builtin.append_ ts r #[.slice (some ⟨b, o, none⟩) sLen sCap, x]).run P w = .ok (.slice (some ⟨b, o, none⟩) (sLen + n) sCap) (setL b (o + sLen * i.size) news w) := by
  have hst := run_storeCells_at P b (o + sLen * i.size) news 0 w ho (by simpa using hc) (by simpa using hz)
  have hm : (match dx with | .int _ => true | _ => false) = false := by
    cases dx <;> first | rfl | exact absurd rfl (hni _)
  simp only [Nat.add_zero] at hst
  unfold Builtin.append_
  simp [h0, h1, run_underlying' P w ty _ ht, run_underlying' P w tx _ hx, sizeOf, typeInfo, hi, hn, hroom, hf, add_none, hst]

theorem run_append_same' (ty tx e r : TypeId) (i : TypeInfo) (ts : Array TypeId) (h0 : ts[0]? = some ty) (h1 : ts[1]? = some tx) (ht : P.underlying ty = some (.slice e)) {dx : TypeDesc} (hx : P.underlying tx = some dx) (hni : ∀ k, dx ≠ .int k)
    (hi : P.info? e = some i) (base : Option Addr) (sLen sCap : Nat) (x : Value) (hn : (Builtin.lenOf x).run P w = .ok 0 w) (hf : (Builtin.firstCells i.size 0 x).run P w = .ok #[] w)
    (hroom : sLen ≤ sCap) : (Builtin.append_ ts r #[.slice base sLen sCap, x]).run P w = .ok (.slice base sLen sCap) w := by
  have hm : (match dx with | .int _ => true | _ => false) = false := by
    cases dx <;> first | rfl | exact absurd rfl (hni _)
  unfold Builtin.append_
  cases base with
  | none => simp [h0, h1, run_underlying' P w ty _ ht, run_underlying' P w tx _ hx, sizeOf, typeInfo, hi, hn, hroom, hf]
  | some a => simp [h0, h1, run_underlying' P w ty _ ht, run_underlying' P w tx _ hx, sizeOf, typeInfo, hi, hn, hroom, hf, storeCells]

theorem run_append_grow' (ty tx e r : TypeId) (i : TypeInfo) (z : Value) (ts : Array TypeId) (h0 : ts[0]? = some ty) (h1 : ts[1]? = some tx) (ht : P.underlying ty = some (.slice e)) {dx : TypeDesc} (hx : P.underlying tx = some dx) (hni : ∀ k, dx ≠ .int k)
    (hi : P.info? e = some i) (hz : i.zero = some z) (base : Option Addr) (sLen sCap n : Nat) (x : Value) (olds news : List Value) (hn : (Builtin.lenOf x).run P w = .ok n w) (hf : (Builtin.firstCells i.size n x).run P w.drew = .ok news.toArray w.drew)
    (hfo : (Builtin.firstCells i.size sLen (.slice base sLen sCap)).run P w.drew = .ok olds.toArray w.drew)
    (hg : sCap < sLen + n) (h63 : ((sLen + n : Nat) : Int) ≤ 9223372036854775807) (hfit : Builtin.nextslicecap (sLen + n) sCap * i.bytes ≤ 281474976710656) :
    (Builtin.append_ ts r #[.slice base sLen sCap, x]).run P w =
      .ok (.slice (some ⟨w.heap.size, 0, none⟩) (sLen + n) (grownCap w (sLen + n) sCap e))
        (w.drew.alloc (.cells (olds.toArray ++ news.toArray ++ Builtin.zeroCells z.cells (grownCap w (sLen + n) sCap e - (sLen + n))) e)) := by
  have hn' : ¬ (sLen + n ≤ sCap) := by omega
  have h63' : ¬ (9223372036854775807 < ((sLen : Int) + (n : Int))) := by omega
  have h48' : ¬ (281474976710656 < Builtin.nextslicecap (sLen + n) sCap * i.bytes) := by omega
  have hm : (match dx with | .int _ => true | _ => false) = false := by
    cases dx <;> first | rfl | exact absurd rfl (hni _)
  have hfo' := hfo
  unfold Builtin.append_
  simp [h0, h1, run_underlying' P w ty _ ht, run_underlying' P w tx _ hx, sizeOf, typeInfo, zeroValue, hi, hz, hn, hn', h63', h48', Question.forced, hf, hfo, newRow, grownCap]
  congr 2
  apply Array.ext'
  simp [List.append_assoc]
end

theorem zeroQ_spec {P : Program} {t : TypeId} {z : List AV} (h : zeroQ P t = some z) :
    ∃ i v, P.info? t = some i ∧ i.zero = some v ∧ z = v.cells.toList.map ofC0 ∧ (∀ a ∈ z, a.isJunk = false) ∧ v.cells.size = i.size ∧ z.length = P.cellsOf t := by
  unfold zeroQ at h
  split at h
  · rename_i i hi
    split at h
    · rename_i v hv
      split at h
      · rename_i hc
        cases h
        refine ⟨i, v, hi, hv, rfl, ?_, hc.2, ?_⟩
        · intro a ha
          have := List.all_eq_true.1 hc.1 a ha
          simpa using this
        · simp [Program.cellsOf, hi, hc.2]
      · cases h
    · cases h
  · cases h
theorem ofC0_cell {v : Value} (h : (ofC0 v).isJunk = false) : (ofC0 v).isCell = true := by
  unfold ofC0 at *
  split <;> first | rfl | (simp_all [AV.isJunk])
theorem zero_cells {P : Program} {t : TypeId} {z : List AV} (h : zeroQ P t = some z) (G : Gh) :
    ∃ i v, P.info? t = some i ∧ i.zero = some v ∧ v.cells.size = i.size ∧ z.length = P.cellsOf t ∧ P.cellsOf t = i.size ∧ VRL G z v.cells.toList ∧ (∀ x ∈ v.cells.toList, oneV x = true) ∧ (∀ x ∈ z, x.isCell = true) := by
  obtain ⟨i, v, h1, h2, rfl, h4, h5, h6⟩ := zeroQ_spec h
  have hr : VRL G (v.cells.toList.map ofC0) v.cells.toList := by
    have := VRL.map (G := G) (f := ofC0) (g := id) v.cells.toList fun x _ => ofC0_VR G x
    simpa using this
  have hcell : ∀ x ∈ v.cells.toList.map ofC0, x.isCell = true := fun x hx => by
    obtain ⟨y, hy, rfl⟩ := List.mem_map.1 hx
    exact ofC0_cell (h4 _ hx)
  refine ⟨i, v, h1, h2, h5, h6, by simp [Program.cellsOf, h1], hr, fun x hx => ?_, hcell⟩
  exact (ofC0_VR G x).one (hcell _ (List.mem_map.2 ⟨x, hx, rfl⟩))

/-- what is appended: how much it is, and its cells, in a world where what is known stands -/
theorem elems_src {P : Program} {G : Gh} {w : World} {x : AV} {v : Value} {xs : List AV} {sz : Nat} (hx : VR G x v) (h : elemsOf x = some xs) (hs : sizesOk sz xs = true) (hI : ∀ b o v, G.I b o = some v → w.cell? ⟨b, o, none⟩ = some v) :
    (Builtin.lenOf v).run P w = .ok xs.length w ∧ ∃ fl news, flatQ xs = some fl ∧ fl.length = xs.length * sz ∧ VRL G fl news ∧ (Builtin.firstCells sz xs.length v).run P w = .ok news.toArray w := by
  unfold elemsOf at h
  split at h
  · rename_i es tok
    cases h
    cases hx with
    | nils _ ad _ => exact ⟨rfl, [], [], rfl, by simp, .nil, by cases ad <;> simp [Builtin.firstCells, run_loadCells_zero]⟩
    | slice _ _ fl b o cap sz' k1 k2 k3 k4 k5 =>
      obtain ⟨vs, v1, v2⟩ := k3.vals
      have hl := flatQ_len' k2 hs
      have hlv := v1.length
      refine ⟨by simp [Builtin.lenOf], fl, vs, k2, hl, v1, ?_⟩
      exact run_firstCells_some (P := P) w sz xs.length ⟨b, o, none⟩ _ _ vs (by rw [hlv, hl]) fun j u hj => by rw [add_none]; exact hI _ _ _ (v2 j u hj)
  · rename_i s
    cases h
    obtain ⟨p, rfl, rfl⟩ := hx.inv_str
    have hlen : p.data.toList.length = p.size := by rw [Array.length_toList]; rfl
    have hfl : ∀ l : List UInt8, flatQ (l.map fun b => AV.int .u8 b.toNat) = some (l.map fun b => AV.int .u8 b.toNat) := fun l => by
      induction l with
      | nil => rfl
      | cons a l ih => simp [flatQ, AV.cells?, ih]
    refine ⟨by simp [Builtin.lenOf, hlen], _, p.data.toList.map (fun b => Value.int .u8 b.toNat), hfl _, ?_, VRL.map _ fun b _ => .int _ _, ?_⟩
    · cases hp : p.data.toList with
      | nil => simp
      | cons a l =>
        rw [hp] at hs
        simp [sizesOk, AV.cells?] at hs
        simp [← hs.1]
    · simp only [Builtin.firstCells, List.length_map, hlen, Sem.run_pure]
      have hx : p.extract 0 p.size = p := by simp
      rw [hx]
      congr 1
      apply Array.ext'
      simp
  · cases h

/-- a new row whose first cells stay as they are, with a token at its frontier -/
theorem Inv.newTok {w0 : World} {B : Nat} {G : Gh} {S : St} {w : World} (hi : Inv w0 B G S w) (cells : Array Value) (ty : TypeId) {fl : List AV} {vs : List Value} (hv : VRL G fl vs)
    (hc : ∀ (j : Nat) v, vs[j]? = some v → cells[j]? = some v) (t : Nat) (T' : List Nat) (h1 : T'[t]? = some fl.length) (h2 : ∀ u, u ≠ t → T'[u]? = S.T[u]?) (h3 : ∀ n, S.T[t]? = some n → n < fl.length) :
    ∃ G', Inv w0 B G' { S with T := T' } (w.alloc (.cells cells ty)) ∧ Ext G w G' (w.alloc (.cells cells ty)) ∧ VRI G' fl w.heap.size 0 ∧ G'.nu = G.nu ∧ G'.fr t = some fl.length ∧ G'.tau t = some (w.heap.size, cells.size) := by
  let G' : Gh := { G with I := fun b o => if b = w.heap.size then vs[o]? else G.I b o, tau := fun u => if u = t then some (w.heap.size, cells.size) else G.tau u, fr := fun u => if u = t then some fl.length else G.fr u }
  have hlen := hv.length
  have hIlt : ∀ b o v, G.I b o = some v → b < w.heap.size := fun b o v h => World.block_lt_of_cell? w _ (hi.imm b o v h)
  have hI : ∀ b o v, G.I b o = some v → G'.I b o = some v := fun b o v h => by
    have := hIlt b o v h
    show (if b = w.heap.size then vs[o]? else G.I b o) = some v
    rw [if_neg (by omega)]; exact h
  have hIn : ∀ b o, b < w.heap.size → G'.I b o = G.I b o := fun b o h => by
    show (if b = w.heap.size then vs[o]? else G.I b o) = _
    rw [if_neg (by omega)]
  have le : Gle G G' := by
    refine ⟨hI, fun _ _ h => h, fun _ _ _ h => h, fun u n h => ?_, fun _ _ _ h => h⟩
    by_cases hu : u = t
    · subst hu
      have hn := h3 n (by rw [← hi.fr]; exact h)
      exact ⟨fl.length, by simp [G'], by omega, fun e => by omega⟩
    · exact ⟨n, by simp [G', hu, h], Nat.le_refl _, fun _ => by simp [G', hu]⟩
  have htau : ∀ u x, G'.tau u = some x → (u = t ∧ x = (w.heap.size, cells.size)) ∨ (u ≠ t ∧ G.tau u = some x) := fun u x h => by
    by_cases hu : u = t
    · have : G'.tau u = some (w.heap.size, cells.size) := by simp [G', hu]
      rw [h] at this; cases this; exact .inl ⟨hu, rfl⟩
    · exact .inr ⟨hu, by simpa [G', hu] using h⟩
  have hlt : ∀ u, u < S.T.length → u < T'.length := fun u hu => by
    by_cases hut : u = t
    · subst hut; exact (List.getElem?_eq_some_iff.1 h1).1
    · have := h2 u hut
      rw [List.getElem?_eq_getElem hu] at this
      exact (List.getElem?_eq_some_iff.1 this).1
  have hblk : ∀ u b m, G.tau u = some (b, m) → b < w.heap.size := fun u b m h => by
    obtain ⟨b', m', _, _, _, k1, _, k3, _⟩ := hi.tok u _ (List.getElem?_eq_getElem (hi.taud u _ h))
    rw [h] at k1; cases k1; exact lt_of_heap k3
  have hphi : ∀ e b, G.phi e = some b → b < w.heap.size := fun e b h => (hi.phil e b h).2
  refine ⟨G', ⟨hi.gl, hi.below.alloc hi.base _, Nat.le_trans hi.base (by simp), fun b o v h => ?_, fun u => ?_, fun e bx h hty => ?_, hi.phid, hi.phij, fun u n h => ?_, fun u x h => ?_, fun u u' b m m' k1 k2 => ?_, fun e b h => by have := hi.phil e b h; simp; omega, hi.tel, ?_⟩, ⟨le, by simp, fun _ _ h => .inl h, fun u x h => ?_, fun b o v h => ?_, fun b hb _ _ _ => heap_alloc_lt w _ hb, fun i v b m h => .inl ⟨v, m, h⟩⟩, ?_, rfl, by simp [G'], by simp [G']⟩
  · by_cases hb : b = w.heap.size
    · subst hb
      have h' : vs[o]? = some v := by simpa [G'] using h
      rw [World.cell?_alloc_new]; exact hc o v h'
    · have h' : G.I b o = some v := by simpa [G', hb] using h
      rw [World.cell?_alloc_lt w _ _ (hIlt b o v h')]
      exact hi.imm b o v h'
  · by_cases hu : u = t
    · subst hu; simp [G', h1]
    · simp [G', hu, h2 u hu, hi.fr]
  · obtain ⟨b, vs', k1, k2, k3, k4, k5, k6, k7, k8⟩ := hi.box e bx h hty
    exact ⟨b, vs', k1, k2, by rw [heap_alloc_lt w _ (lt_of_heap k3)]; exact k3, k4.mono le, fun o => by rw [hIn b o (lt_of_heap k3)]; exact k5 o, k6, k7, k8⟩
  · by_cases hu : u = t
    · subst hu
      rw [h1] at h; cases h
      refine ⟨w.heap.size, cells.size, cells, ty, (0, 0), by simp [G'], hi.base, heap_alloc_at w _, Nat.le_refl _, fun o ho => ?_, fun o _ => by simp, fun e he => ?_⟩
      · show (if w.heap.size = w.heap.size then vs[o]? else _) = none
        rw [if_pos rfl, List.getElem?_eq_none (by omega)]
      · have := hphi e _ he; omega
    · rw [h2 u hu] at h
      obtain ⟨b, m, vs', ty', fz, k1, k2, k3, k4, k5, k6, k7⟩ := hi.tok u n h
      refine ⟨b, m, vs', ty', fz, by simp [G', hu, k1], k2, by rw [heap_alloc_lt w _ (lt_of_heap k3)]; exact k3, k4, fun o ho => by rw [hIn b o (lt_of_heap k3)]; exact k5 o ho, fun o ho => ?_, k7⟩
      rw [World.frozen?_of_block (w := w) (heap_alloc_lt w _ (lt_of_heap k3))]; exact k6 o ho
  · rcases htau u x h with ⟨rfl, _⟩ | ⟨_, h⟩
    · exact (List.getElem?_eq_some_iff.1 h1).1
    · exact hlt u (hi.taud u x h)
  · rcases htau u _ k1 with ⟨e1, e2⟩ | ⟨e1, e2⟩ <;> rcases htau u' _ k2 with ⟨f1, f2⟩ | ⟨f1, f2⟩
    · rw [e1, f1]
    · cases e2; have := hblk _ _ _ f2; omega
    · cases f2; have := hblk _ _ _ e2; omega
    · exact hi.tauj u u' b m m' e2 f2
  · exact hi.ex.stay le rfl (fun e bx _ h => h) (Nat.le_refl _) (by simp) (fun b hb => heap_alloc_lt w _ (hb.lt hi)) (fun b hb o => by rw [hIn b o (hb.lt hi)]; exact hb.I hi o) (fun e b h => .inl h) (fun u x h => (htau u x h).elim (fun h => .inr (by rw [h.2]; exact Nat.le_refl _)) fun h => .inl h.2)
  · rcases htau u x h with ⟨_, rfl⟩ | ⟨_, h⟩
    · exact .inr (Nat.le_refl _)
    · exact .inl h
  · by_cases hb : b = w.heap.size
    · exact .inr (.inl (by omega))
    · exact .inl (by simpa [G', hb] using h)
  · exact VRI.of_vals (hv.mono le) fun j v hj => by
      show (if w.heap.size = w.heap.size then vs[0 + j]? else _) = some v
      rw [if_pos rfl, Nat.zero_add]; exact hj

/-- what lies behind the frontier is written, and the frontier moves on -/
theorem Inv.pushTok {w0 : World} {B : Nat} {G : Gh} {S : St} {w : World} (hi : Inv w0 B G S w) {t b m pos : Nat} {fl : List AV} {vs : List Value} (hv : VRL G fl vs) (ho : fl ≠ [])
    (ht : S.T[t]? = some pos) (hb : G.tau t = some (b, m)) (hm : pos + fl.length ≤ m) :
    (∀ j, j < vs.length → (w.cell? ⟨b, pos + j, none⟩).isSome = true) ∧ (∀ j, j < vs.length → w.frozen? ⟨b, pos + j, none⟩ = false) ∧
    ∃ G', Inv w0 B G' { S with T := S.T.set t (pos + fl.length) } (setL b pos vs w) ∧ Gle G G' ∧ G'.nu = G.nu ∧ G'.phi = G.phi ∧ G'.rv = G.rv ∧ G'.tau = G.tau ∧ VRI G' fl b pos ∧ G'.fr t = some (pos + fl.length) ∧
      (∀ x o v, G'.I x o = some v → G.I x o = some v ∨ (x = b ∧ pos ≤ o)) := by
  obtain ⟨b', m', cs, ty, fz, k1, k2, k3, k4, k5, k6, k7⟩ := hi.tok t pos ht
  rw [hb] at k1; cases k1
  have hlen := hv.length
  have hpl : 0 < fl.length := List.length_pos_iff.2 ho
  let G' : Gh := { G with I := fun x o => if x = b ∧ pos ≤ o ∧ o < pos + vs.length then vs[o - pos]? else G.I x o, fr := fun u => if u = t then some (pos + fl.length) else G.fr u }
  have hI : ∀ x o v, G.I x o = some v → G'.I x o = some v := fun x o v h => by
    show (if x = b ∧ pos ≤ o ∧ o < pos + vs.length then vs[o - pos]? else G.I x o) = some v
    rw [if_neg]
    · exact h
    · rintro ⟨rfl, h1, _⟩; rw [k5 o h1] at h; cases h
  have hIn : ∀ x o, x ≠ b → G'.I x o = G.I x o := fun x o h => by
    show (if x = b ∧ pos ≤ o ∧ o < pos + vs.length then vs[o - pos]? else G.I x o) = _
    rw [if_neg (fun h' => h h'.1)]
  have hIo : ∀ o, o < pos → G'.I b o = G.I b o := fun o h => by
    show (if b = b ∧ pos ≤ o ∧ o < pos + vs.length then vs[o - pos]? else G.I b o) = _
    rw [if_neg (fun h' => by omega)]
  have hTt : t < S.T.length := hi.taud t _ hb
  have le : Gle G G' := by
    refine ⟨hI, fun _ _ h => h, fun _ _ _ h => h, fun u n h => ?_, fun _ _ _ h => h⟩
    by_cases hu : u = t
    · subst hu
      rw [hi.fr, ht] at h; cases h
      exact ⟨pos + fl.length, by simp [G'], by omega, fun e => by omega⟩
    · exact ⟨n, by simp [G', hu, h], Nat.le_refl _, fun _ => rfl⟩
  have hsame := setL_heap_same vs pos w cs ty fz k3
  have hputl := putL_toList vs pos cs (by omega)
  refine ⟨fun j hj => ?_, fun j hj => k6 _ (by omega), G', ⟨hi.gl, setL_below k2 vs pos w hi.below, by rw [setL_size]; exact hi.base, fun x o v h => ?_, fun u => ?_, fun e bx h hty => ?_, hi.phid, hi.phij, fun u n h => ?_, fun u x h => ?_, hi.tauj, fun e b h => by rw [setL_size]; exact hi.phil e b h, hi.tel, ?_⟩, le, rfl, rfl, rfl, rfl, ?_, by simp [G'], fun x o v h => ?_⟩
  · rw [cell_of_heap k3]; simp; omega
  · by_cases hx : x = b
    · subst hx
      rw [cell_of_heap hsame]
      by_cases hr : pos ≤ o ∧ o < pos + vs.length
      · have h' : vs[o - pos]? = some v := by simpa [G', hr.1, hr.2] using h
        have : (putL pos vs cs)[o]? = (putL pos vs cs).toList[o]? := by simp
        rw [this, hputl, List.getElem?_append_right (by simp; omega), List.getElem?_append_left (by simp; omega)]
        have e : o - (List.take pos cs.toList).length = o - pos := by simp; omega
        rw [e]; exact h'
      · have h' : G.I x o = some v := by
          have : G'.I x o = G.I x o := by
            show (if x = x ∧ pos ≤ o ∧ o < pos + vs.length then vs[o - pos]? else G.I x o) = _
            rw [if_neg (fun h' => hr ⟨h'.2.1, h'.2.2⟩)]
          rw [← this]; exact h
        have hlt : o < pos := by
          rcases Nat.lt_or_ge o pos with h1 | h1
          · exact h1
          · rw [k5 o h1] at h'; cases h'
        have hc := hi.imm x o v h'
        rw [cell_of_heap k3] at hc
        have : (putL pos vs cs)[o]? = (putL pos vs cs).toList[o]? := by simp
        rw [this, hputl, List.getElem?_append_left (by simp; omega), List.getElem?_take, if_pos hlt]
        simpa using hc
    · rw [hIn x o hx] at h
      rw [World.cell?_of_block (w := w) (setL_heap_other vs pos w x hx)]
      exact hi.imm x o v h
  · by_cases hu : u = t
    · subst hu; simp [G', hTt]
    · simp [G', hu, hi.fr, List.getElem?_set_ne (Ne.symm hu)]
  · obtain ⟨x, vs', x1, x2, x3, x4, x5, x6, x7, x8⟩ := hi.box e bx h hty
    have hne : x ≠ b := fun e' => k7 e (by rw [← e']; exact x1)
    exact ⟨x, vs', x1, x2, by rw [setL_heap_other vs pos w x hne]; exact x3, x4.mono le, fun o => by rw [hIn x o hne]; exact x5 o, x6, x7, x8⟩
  · by_cases hu : u = t
    · subst hu
      rw [List.getElem?_set_self hTt] at h; cases h
      refine ⟨b, m, _, ty, fz, hb, k2, hsame, by rw [putL_size]; exact k4, fun o ho => ?_, fun o ho => ?_, k7⟩
      · show (if b = b ∧ pos ≤ o ∧ o < pos + vs.length then vs[o - pos]? else G.I b o) = none
        rw [if_neg (fun h' => by omega)]
        exact k5 o (by omega)
      · have : (setL b pos vs w).frozen? ⟨b, o, none⟩ = w.frozen? ⟨b, o, none⟩ := by simp [World.frozen?, hsame, k3]
        rw [this]; exact k6 o ho
    · rw [List.getElem?_set_ne (Ne.symm hu)] at h
      obtain ⟨x, m', vs', ty', fz', x1, x2, x3, x4, x5, x6, x7⟩ := hi.tok u n h
      have hne : x ≠ b := fun e' => hu (hi.tauj u t b m' m (by rw [← e']; exact x1) hb)
      have hh := setL_heap_other vs pos w x hne
      exact ⟨x, m', vs', ty', fz', x1, x2, by rw [hh]; exact x3, x4, fun o ho => by rw [hIn x o hne]; exact x5 o ho, fun o ho => by rw [World.frozen?_of_block (w := w) hh]; exact x6 o ho, x7⟩
  · have := hi.taud u x h; simpa using this
  · have hne : ∀ b', Spec G S b' → b' ≠ b := fun b' hs e => by subst e; exact hs.tau hi t m hb
    exact hi.ex.stay le rfl (fun e bx _ h => h) (Nat.le_refl _) (by rw [setL_size]; exact Nat.le_refl _) (fun b' hs => setL_heap_other vs pos w b' (hne b' hs)) (fun b' hs o => by rw [hIn b' o (hne b' hs)]; exact hs.I hi o) (fun e b h => .inl h) (fun t x h => .inl h)
  · exact VRI.of_vals (hv.mono le) fun j v hj => by
      have hj' := (List.getElem?_eq_some_iff.1 hj).1
      show (if b = b ∧ pos ≤ pos + j ∧ pos + j < pos + vs.length then vs[pos + j - pos]? else _) = some v
      rw [if_pos ⟨rfl, by omega, by omega⟩, show pos + j - pos = j by omega]; exact hj
  · by_cases hc : x = b ∧ pos ≤ o ∧ o < pos + vs.length
    · exact .inr ⟨hc.1, hc.2.1⟩
    · exact .inl (by
        have : G'.I x o = G.I x o := by
          show (if x = b ∧ pos ≤ o ∧ o < pos + vs.length then vs[o - pos]? else G.I x o) = _
          rw [if_neg hc]
        rw [← this]; exact h)

theorem Inv.drew {w0 : World} {B : Nat} {G : Gh} {S : St} {w : World} (hi : Inv w0 B G S w) : Inv w0 B G S w.drew :=
  ⟨hi.gl, hi.below.drew, hi.base, hi.imm, hi.fr, hi.box, hi.phid, hi.phij, hi.tok, hi.taud, hi.tauj, hi.phil, hi.tel, ⟨hi.ex.row, hi.ex.mp, hi.ex.rvd, hi.ex.rvb, hi.ex.rvj, hi.ex.rvp, hi.ex.rvt, hi.ex.rvI, hi.ex.mpt⟩⟩
theorem LInv.drew {B : Nat} {G : Gh} {w : World} {dep : Nat} {b : Nat → Nat × List AV} (h : LInv B G w dep b) : LInv B G w.drew dep b := ⟨h.box, h.inj⟩
theorem Ext.drew {G G' : Gh} {w w' : World} (h : Ext G w G' w') : Ext G w G' w'.drew := ⟨h.le, h.size, h.phi, h.tau, h.I, h.keep, h.rv⟩
theorem Pre.drew {F : Fix} {fs : FS} {G : Gh} {w : World} (h : Pre F fs G w) : Pre F fs G w.drew := ⟨h.inv.drew, h.ext.drew, h.loc.drew⟩

/-- the values of a row's cells -/
theorem VRL.app_get {G : Gh} {x y : List AV} {a b : List Value} (h : VRL G x a) (k : VRL G y b) {z : List Value} (j : Nat) (v : Value) (hj : (a ++ b)[j]? = some v) : (a.toArray ++ b.toArray ++ z.toArray)[j]? = some v := by
  have : (a.toArray ++ b.toArray ++ z.toArray)[j]? = (a ++ b ++ z)[j]? := by simp
  rw [this, List.getElem?_append_left (List.getElem?_eq_some_iff.1 hj).1]
  exact hj

theorem evAppend_src {F : Fix} {P : Program} {fs : FS} {G : Gh} {w : World} {i : Nat} {ts : Array TypeId} {rt : TypeId} {s x r : AV} {sv xv : Value} {S' : St} (hp : Pre F fs G w) (hs : VR G s sv)
    (hsrc : ∀ xs e, ts.toList.head?.bind (sliceQ P) = some e → elemsOf x = some xs → sizesOk (P.cellsOf e) xs = true → ∀ w', (w' = w ∨ w' = w.drew) → (Builtin.lenOf xv).run P w' = .ok xs.length w' ∧ ∃ fl news, flatQ xs = some fl ∧ fl.length = xs.length * P.cellsOf e ∧ VRL G fl news ∧ (Builtin.firstCells (P.cellsOf e) xs.length xv).run P w' = .ok news.toArray w')
    (h : evAppend P ts.toList s x fs.S = some (r, S')) :
    ∃ G' w' v, (Builtin.append_ ts rt #[sv, xv]).run P w = .ok v w' ∧ Post F fs.c i G fs.b S' r G' w' v := by
  unfold evAppend at h
  split at h
  · rename_i ty tx tl hts
    have h0 : ts[0]? = some ty := by rw [← Array.getElem?_toList, hts]; rfl
    have h1 : ts[1]? = some tx := by rw [← Array.getElem?_toList, hts]; rfl
    split at h
    · rename_i e he hu
      have ht := sliceQ_spec he
      obtain ⟨dx, hdx, hni⟩ : ∃ dx, P.underlying tx = some dx ∧ ∀ k, dx ≠ .int k := by
        split at hu
        · cases hu
        · cases hu
        · rename_i d hne hd
          exact ⟨d, hd, fun k hk => hne k hk⟩
      split at h
      · rename_i es tok xs hxs
        split at h
        · cases h
        · rename_i z hz
          obtain ⟨ii, zv, z1, z2, z3, z4, z5, z6, z7, z8⟩ := zero_cells hz G
          split at h
          · rename_i hc
            obtain ⟨c1, c2, c3, c4, c5, c6, c7⟩ := hc
            have himm := hp.inv.imm
            obtain ⟨n1, flx, news, f1, f2, f3, f4⟩ := hsrc xs e (by rw [hts]; exact he) hxs c7 w (.inl rfl)
            obtain ⟨_, flx', news', f1', f2', f3', f4'⟩ := hsrc xs e (by rw [hts]; exact he) hxs c7 w.drew (.inr rfl)
            have hnl := f3.length
            have hb1 : ii.bytes = P.bytesOf e := by simp [Program.bytesOf, z1]
            split at h
            · rename_i hnil
              subst hnil
              cases h
              obtain ⟨ad, cap, rfl, hcap⟩ : ∃ ad cap, sv = .slice ad es.length cap ∧ es.length ≤ cap := by
                cases hs with
                | nils _ ad _ => exact ⟨ad, 0, rfl, Nat.le_refl _⟩
                | slice _ _ fl b o cap sz k1 k2 k3 k4 k5 => exact ⟨_, cap, rfl, k1⟩
              simp [flatQ] at f1
              subst f1
              cases f3
              exact ⟨G, w, _, run_append_same' ty tx e rt ii ts h0 h1 ht hdx hni z1 ad es.length cap xv n1 (by rw [← z5]; exact f4) hcap, Post.same hp hs⟩
            · rename_i hne
              have hxpos : 0 < xs.length := List.length_pos_iff.2 hne
              have hszpos : 0 < P.cellsOf e := by omega
              have c45 : es.length + xs.length ≤ 70368744177664 := Nat.le_trans (Nat.le_mul_of_pos_right _ hszpos) c5
              have hflx : 0 < flx.length := by rw [f2]; exact Nat.mul_pos hxpos hszpos
              rw [f1] at f1'; cases f1'
              split at h
              · -- no room
                cases h
                obtain ⟨ad, fl, olds, rfl, g1, g2, g3, g4⟩ : ∃ ad fl olds, sv = .slice ad es.length es.length ∧ flatQ es = some fl ∧ fl.length = es.length * P.cellsOf e ∧ VRL G fl olds ∧
                    (Builtin.firstCells ii.size es.length (.slice ad es.length es.length)).run P w.drew = .ok olds.toArray w.drew := by
                  cases hs with
                  | nils _ ad _ => exact ⟨ad, [], [], rfl, rfl, by simp, .nil, by cases ad <;> simp [Builtin.firstCells, run_loadCells_zero]⟩
                  | slice _ _ fl b o cap sz k1 k2 k3 k4 k5 =>
                    simp only [TokR] at k4
                    subst k4
                    obtain ⟨vs, v1, v2⟩ := k3.vals
                    have hl := flatQ_len' k2 c6
                    have hlv := v1.length
                    exact ⟨_, fl, vs, rfl, k2, hl, v1, run_firstCells_some (P := P) w.drew ii.size es.length ⟨b, o, none⟩ _ _ vs (by rw [hlv, hl, z5]) fun j u hj => by rw [add_none]; exact himm _ _ _ (v2 j u hj)⟩
                have holl := g3.length
                have hrun := run_append_grow' (P := P) (w := w) ty tx e rt ii zv ts h0 h1 ht hdx hni z1 z2 ad es.length es.length xs.length xv olds news' n1 (by rw [← z5]; exact f4') g4 (by omega) (by omega)
                  (growslice_fits (by omega) (by rw [hb1]; omega))
                have hvv := g3.append f3'
                have hflen : (fl ++ flx).length = (es.length + xs.length) * P.cellsOf e := by simp [g2, f2, Nat.add_mul]
                obtain ⟨G', i1, i2, i3, i4, i5, i6⟩ := hp.inv.drew.newTok (olds.toArray ++ news'.toArray ++ Builtin.zeroCells zv.cells (grownCap w (es.length + xs.length) es.length e - (es.length + xs.length))) e hvv
                  (fun j v hj => by
                    have := VRL.app_get g3 f3' (z := (Builtin.zeroCells zv.cells (grownCap w (es.length + xs.length) es.length e - (es.length + xs.length))).toList) j v hj
                    simpa using this) fs.S.T.length (fs.S.T ++ [(es.length + xs.length) * P.cellsOf e]) (by simp [hflen]) (fun u hu => by
                    rcases Nat.lt_or_ge u fs.S.T.length with h' | h'
                    · rw [List.getElem?_append_left h']
                    · rw [List.getElem?_append_right h', List.getElem?_eq_none h', List.getElem?_eq_none (by simp; omega)]) (fun n hn => by simp at hn)
                refine ⟨G', _, _, hrun, ?_, i1, i2.le, hp.drew.ext.trans F.ie i2, hp.drew.loc.ext i2, fun _ _ h => absurd (congrFun (congrFun i4 _) _) h⟩
                have hge := grownCap_ge w (es.length + xs.length) es.length e
                have hlen : (es ++ xs).length = es.length + xs.length := by simp
                have hv : VR G' (.slice (es ++ xs) (.own fs.S.T.length ((es.length + xs.length) * P.cellsOf e))) (.slice (some ⟨w.drew.heap.size, 0, none⟩) (es ++ xs).length (grownCap w (es.length + xs.length) es.length e)) := by
                  refine .slice _ _ (fl ++ flx) _ 0 _ (P.cellsOf e) (by rw [hlen]; exact hge) (flatQ_append g1 f1) i3 ?_ (by rw [sizesOk_append, c6, c7]; rfl)
                  refine ⟨_, P.cellsOf e, by simp [hne], hszpos, i5, by omega, by rw [hflen, hlen], fun _ => ⟨_, rfl, i6, hflen, ?_⟩⟩
                  simp only [Array.size_append, size_zeroCells, List.size_toArray, holl, f3'.length, g2, f2, z3, ← z5]
                  have : grownCap w (es.length + xs.length) es.length e = es.length + xs.length + (grownCap w (es.length + xs.length) es.length e - (es.length + xs.length)) := by omega
                  have e2 := congrArg (· * P.cellsOf e) this
                  simp only [Nat.add_mul] at e2
                  omega
                rw [hlen] at hv
                exact hv
              · -- owned
                rename_i k pos
                split at h
                · rename_i hT
                  cases h
                  cases hs with
                  | nils _ _ htok => exact absurd rfl (htok _ _)
                  | slice _ _ fl b o cap sz k1 k2 k3 k4 k5 =>
                    obtain ⟨n, sz', t1, t2, t3, t4, t5, t6⟩ := k4
                    rw [hp.inv.fr, hT] at t3; cases t3
                    obtain ⟨m, rfl, t7, t8, t9⟩ := t6 rfl
                    have hl := flatQ_len' k2 c6
                    have hesz : sz' = P.cellsOf e := by
                      have : es.length * sz' = es.length * P.cellsOf e := by rw [← t5, hl]
                      exact Nat.eq_of_mul_eq_mul_left (List.length_pos_iff.2 t1) this
                    subst hesz
                    have hlen : (es ++ xs).length = es.length + xs.length := by simp
                    have hflen : (fl ++ flx).length = pos + xs.length * P.cellsOf e := by simp [t8, f2]
                    by_cases hroom : es.length + xs.length ≤ cap
                    · have hcm : (es.length + xs.length) * P.cellsOf e ≤ cap * P.cellsOf e := Nat.mul_le_mul_right _ hroom
                      rw [Nat.add_mul] at hcm
                      obtain ⟨p1, p2, G', p3, p4, p5, p6, p6', p7, p8, p9, p10⟩ := hp.inv.pushTok f3 (List.length_pos_iff.1 hflx) hT t7 (by rw [f2]; omega)
                      have hposl : 0 + es.length * ii.size = pos := by rw [← z5, ← hl, t8]; omega
                      have hrun := run_append_room' (P := P) (w := w) ty tx e rt ii ts h0 h1 ht hdx hni z1 b 0 es.length cap xs.length xv news n1 (by rw [← z5]; exact f4) hroom
                        (fun v hv => by
                          obtain ⟨j, hj⟩ := List.mem_iff_getElem?.1 hv
                          have hjl := (List.getElem?_eq_some_iff.1 hj).1
                          obtain ⟨u, hu1, hu2⟩ := f3.get (List.getElem?_eq_getElem (show j < flx.length by omega))
                          rw [hj] at hu1; cases hu1
                          exact hu2.one (flatQ_isCell f1 _ (List.getElem_mem _))) (by rw [hposl]; exact p1) (by rw [hposl]; exact p2)
                      rw [hposl] at hrun
                      rw [f2] at p3 p9
                      have hext : Ext F.Ge F.we G' (setL b pos news w) := by
                        have e0 := hp.ext
                        refine ⟨e0.le.trans p4, by rw [setL_size]; exact e0.size, fun i' b' h' => e0.phi i' b' (by rw [← p6]; exact h'), fun t' x' h' => e0.tau t' x' (by rw [← p7]; exact h'), fun b' o' v' h' => ?_, fun b' hb' q1 q2 q3 => ?_, fun i' v' b' m' h' => e0.rv i' v' b' m' (by rw [← p6']; exact h')⟩
                        · rcases p10 b' o' v' h' with h' | ⟨rfl, h'⟩
                          · exact e0.I b' o' v' h'
                          · rcases e0.tau k _ t7 with h'' | h''
                            · have hk := F.ie.taud k _ h''
                              have hf : F.Ge.fr k = some (F.Se.T[k]) := by rw [F.ie.fr]; simp [hk]
                              obtain ⟨n', e5, e6, _⟩ := e0.le.fr k _ hf
                              rw [hp.inv.fr, hT] at e5; cases e5
                              exact .inr (.inr ⟨k, m, _, h'', hf, by omega⟩)
                            · exact .inr (.inl h'')
                        · have hbne : b' ≠ b := fun hbb => by
                            subst hbb
                            rcases e0.tau k _ t7 with h'' | h''
                            · exact q2 k m h''
                            · simp at h''; omega
                          rw [setL_heap_other news pos w b' hbne]
                          exact e0.keep b' hb' q1 q2 q3
                      have hloc : LInv F.we.heap.size G' (setL b pos news w) F.cx.dep fs.b := by
                        have hl0 := hp.loc
                        refine ⟨fun d hd => ?_, fun d d' k' y1 y2 y3 y4 => hl0.inj d d' k' y1 y2 (by rw [← p5]; exact y3) (by rw [← p5]; exact y4)⟩
                        obtain ⟨q, vs', ty', q1, q2, q3, q4, q5, q6, q7, q8, q9, q10⟩ := hl0.box d hd
                        have hqb : q ≠ b := fun hqq => q9 k m (by rw [hqq]; exact t7)
                        refine ⟨q, vs', ty', by rw [p5]; exact q1, q2, by rw [setL_heap_other news pos w q hqb]; exact q3, q4.mono p4, fun o => ?_, q6, q7, fun i' => by rw [p6]; exact q8 i', fun t' m' => by rw [p7]; exact q9 t' m', fun i' v' m' => by rw [p6']; exact q10 i' v' m'⟩
                        cases hI : G'.I q o with
                        | none => rfl
                        | some v =>
                          rcases p10 q o v hI with h' | ⟨h', _⟩
                          · rw [q5 o] at h'; cases h'
                          · exact absurd h' hqb
                      refine ⟨G', _, _, hrun, ?_, p3, p4, hext, hloc, fun _ _ h => absurd (congrFun (congrFun p5 _) _) h⟩
                      have hv : VR G' (.slice (es ++ xs) (.own k (pos + xs.length * P.cellsOf e))) (.slice (some ⟨b, 0, none⟩) (es ++ xs).length cap) := by
                        refine .slice _ _ (fl ++ flx) b 0 cap (P.cellsOf e) (by rw [hlen]; exact hroom) (flatQ_append k2 f1) ((k3.mono p4).append (by rw [Nat.zero_add, t8]; exact p8)) ?_ (by rw [sizesOk_append, c6, c7]; rfl)
                        exact ⟨_, P.cellsOf e, by simp [hne], hszpos, p9, by omega, by rw [hflen, hlen, Nat.add_mul]; omega, fun _ => ⟨m, rfl, by rw [p7]; exact t7, hflen, t9⟩⟩
                      rw [hlen] at hv
                      exact hv
                    · obtain ⟨vs, v1, v2⟩ := k3.vals
                      have hlv := v1.length
                      have hfo := run_firstCells_some (P := P) w.drew ii.size es.length ⟨b, 0, none⟩ es.length cap vs (by rw [hlv, hl, z5]) fun j u hj => by rw [add_none]; exact himm _ _ _ (v2 j u hj)
                      have hrun := run_append_grow' (P := P) (w := w) ty tx e rt ii zv ts h0 h1 ht hdx hni z1 z2 (some ⟨b, 0, none⟩) es.length cap xs.length xv vs news' n1 (by rw [← z5]; exact f4') hfo (by omega) (by omega)
                        (growslice_fits (by omega) (by rw [hb1]; omega))
                      have hvv := v1.append f3'
                      obtain ⟨G', i1, i2, i3, i4, i5, i6⟩ := hp.inv.drew.newTok (vs.toArray ++ news'.toArray ++ Builtin.zeroCells zv.cells (grownCap w (es.length + xs.length) cap e - (es.length + xs.length))) e hvv
                        (fun j v hj => by
                          have := VRL.app_get v1 f3' (z := (Builtin.zeroCells zv.cells (grownCap w (es.length + xs.length) cap e - (es.length + xs.length))).toList) j v hj
                          simpa using this) k (fs.S.T.set k (pos + xs.length * P.cellsOf e)) (by rw [hflen, List.getElem?_set_self (List.getElem?_eq_some_iff.1 hT).1]) (fun u hu => by
                          rw [List.getElem?_set_ne (Ne.symm hu)]) (fun n hn => by rw [hT] at hn; cases hn; rw [hflen, ← f2]; omega)
                      refine ⟨G', _, _, hrun, ?_, i1, i2.le, hp.drew.ext.trans F.ie i2, hp.drew.loc.ext i2, fun _ _ h => absurd (congrFun (congrFun i4 _) _) h⟩
                      have hge := grownCap_ge w (es.length + xs.length) cap e
                      have hv : VR G' (.slice (es ++ xs) (.own k (pos + xs.length * P.cellsOf e))) (.slice (some ⟨w.drew.heap.size, 0, none⟩) (es ++ xs).length (grownCap w (es.length + xs.length) cap e)) := by
                        refine .slice _ _ (fl ++ flx) _ 0 _ (P.cellsOf e) (by rw [hlen]; exact hge) (flatQ_append k2 f1) i3 ?_ (by rw [sizesOk_append, c6, c7]; rfl)
                        refine ⟨_, P.cellsOf e, by simp [hne], hszpos, i5, by omega, by rw [hflen, hlen, Nat.add_mul]; omega, fun _ => ⟨_, rfl, i6, hflen, ?_⟩⟩
                        simp only [Array.size_append, size_zeroCells, List.size_toArray, hlv, f3'.length, hl, f2, z3, ← z5]
                        have : grownCap w (es.length + xs.length) cap e = es.length + xs.length + (grownCap w (es.length + xs.length) cap e - (es.length + xs.length)) := by omega
                        have e2 := congrArg (· * P.cellsOf e) this
                        simp only [Nat.add_mul] at e2
                        omega
                      rw [hlen] at hv
                      exact hv
                · cases h
              · cases h
          · cases h
      · cases h
    · cases h
  · cases h

theorem evAppend_run {F : Fix} {P : Program} {fs : FS} {G : Gh} {w : World} {i : Nat} {ts : Array TypeId} {rt : TypeId} {s x r : AV} {sv xv : Value} {S' : St} (hp : Pre F fs G w) (hs : VR G s sv) (hx : VR G x xv)
    (h : evAppend P ts.toList s x fs.S = some (r, S')) :
    ∃ G' w' v, (Builtin.append_ ts rt #[sv, xv]).run P w = .ok v w' ∧ Post F fs.c i G fs.b S' r G' w' v :=
  evAppend_src hp hs (fun xs e _ h1 h2 w' hw' => by
    rcases hw' with rfl | rfl
    · exact elems_src hx h1 h2 hp.inv.imm
    · exact elems_src (w := w.drew) hx h1 h2 hp.inv.imm) h
end Go.Proofs.YtcpoinfdnimanaaGreatDoor.AE
/- Structs and slices written out: the evaluator's are the model's. No condition. -/
namespace Go.Proofs.YtcpoinfdnimanaaGreatDoor.AE
set_option linter.unusedVariables false
set_option linter.unusedSimpArgs false
open Go Go.RowKit

theorem run_mapM_list {α β : Type} {P : Program} {w : World} (f : α → Sem β) (g : α → β) : ∀ (l : List α), (∀ x ∈ l, (f x).run P w = .ok (g x) w) → (l.mapM f).run P w = .ok (l.map g) w
  | [], _ => by simp
  | a :: l, h => by
    simp [List.mapM_cons, h a (by simp), run_mapM_list f g l fun x hx => h x (by simp [hx])]
theorem run_mapM {α β : Type} {P : Program} {w : World} (f : α → Sem β) (g : α → β) (l : Array α) (h : ∀ x ∈ l, (f x).run P w = .ok (g x) w) : (l.mapM f).run P w = .ok (l.map g) w := by
  rw [Array.mapM_eq_mapM_toList]
  simp [run_mapM_list f g l.toList fun x hx => h x (by simpa using hx)]
  exact Array.ext' (by simp)

theorem zipIdx_putL : ∀ (l : List Value) (off k : Nat) (cs : Array Value), (l.zipIdx k).foldl (fun cs (x : Value × Nat) => cs.setIfInBounds (off + x.2) x.1) cs = putL (off + k) l cs
  | [], _, _, _ => rfl
  | v :: l, off, k, cs => by
    rw [List.zipIdx_cons, List.foldl_cons, zipIdx_putL l off (k + 1)]
    rfl
theorem fold_putL (vs : Array Value) (off : Nat) (cs : Array Value) : vs.zipIdx.foldl (fun cs (x : Value × Nat) => cs.setIfInBounds (off + x.2) x.1) cs = putL off vs.toList cs := by
  rw [← Array.foldl_toList, Array.toList_zipIdx, zipIdx_putL]
  rfl

/-- parts, as they stand for each other -/
def PVR (G : Gh) : List (Nat × AV) → List (Nat × Value) → Prop
  | [], [] => True
  | (i, a) :: l, (j, v) :: m => i = j ∧ VR G a v ∧ PVR G l m
  | _, _ => False
theorem PVR.of_map {G : Gh} {t : Nat → AV} {a : Act} (h : ∀ x, VR G (t x) (a.tmps.getD x undef)) : ∀ (l : List (Nat × Operand)), PVR G (l.map fun p => (p.1, rho t p.2)) (l.map fun p => (p.1, a.eval p.2))
  | [] => trivial
  | (i, x) :: l => ⟨rfl, rho_VR h x, PVR.of_map h l⟩

theorem fillA_run {G : Gh} {place : Nat → Option (Nat × Nat)} : ∀ (ps : List (Nat × AV)) (qs : List (Nat × Value)) (z cs : List AV) (zv : Array Value), PVR G ps qs → VRL G z zv.toList → (∀ x ∈ z, x.isCell = true) →
    fillA place ps z = some cs → ∃ cells, Instr.fill place zv qs = some cells ∧ VRL G cs cells.toList ∧ (∀ x ∈ cs, x.isCell = true)
  | [], qs, z, cs, zv, hp, hz, hc, h => by
    cases qs with
    | nil => cases h; exact ⟨zv, rfl, hz, hc⟩
    | cons _ _ => exact hp.elim
  | (i, a) :: ps, qs, z, cs, zv, hp, hz, hc, h => by
    cases qs with
    | nil => exact hp.elim
    | cons q qs =>
      obtain ⟨j, v⟩ := q
      obtain ⟨rfl, hv, hps⟩ := hp
      simp only [fillA] at h
      split at h
      · rename_i off sz new e1 e2
        split at h
        · rename_i hsz
          split at h
          · rename_i cs' hw
            obtain ⟨n1, n2, n3⟩ := hv.cells e2
            have hl := n1.length
            have hlz := hz.length
            obtain ⟨hle, _⟩ := wrc_spec hw
            simp at hl hlz
            obtain ⟨cells, r1, r2, r3⟩ := fillA_run ps qs cs' cs (putL off v.cells.toList zv) hps (wrc_put hw n1 hz) (wrc_mem hw n3 hc) h
            refine ⟨cells, ?_, r2, r3⟩
            simp only [Instr.fill, e1]
            rw [if_neg (by simp; omega), fold_putL]
            exact r1
          · cases h
        · cases h
      · cases h

theorem evBuild_run {P : Program} {G : Gh} {w : World} {t : TypeId} {ps : List (Nat × AV)} {qs : Array (Nat × Value)} {r : AV} (hp : PVR G ps qs.toList) (h : evBuild P t ps = some r) :
    ∃ v, (Instr.build t qs).run P w = .ok v w ∧ VR G r v := by
  unfold evBuild at h
  split at h
  · rename_i hk
    split at h
    · rename_i z hz
      split at h
      · rename_i cs hf
        cases h
        obtain ⟨i, zv, z1, z2, z3, z4, z5, z6, z7, z8⟩ := zero_cells hz G
        have hzr : (zeroValue t).run P w = .ok zv w := by simp [zeroValue, typeInfo, z1, z2]
        unfold partsQ at hk
        split at hk
        · rename_i fs hu
          have hm : (fs.mapM fun f => do pure (f.offset, ← sizeOf f.type) : Sem (Array (Nat × Nat))).run P w = .ok (fs.map fun f => (f.offset, P.cellsOf f.type)) w := by
            refine run_mapM _ (fun f => (f.offset, P.cellsOf f.type)) fs fun f hf => ?_
            obtain ⟨fi, hfi⟩ := Option.isSome_iff_exists.1 ((Array.all_eq_true'.1 hk) f hf)
            simp [run_sizeOf' P w f.type fi hfi]
          have hpl : (fun i => (fs.map fun f => (f.offset, P.cellsOf f.type))[i]?) = placeQ P t := by
            funext j
            simp only [placeQ, hu, Array.getElem?_map]
            cases fs[j]? <;> rfl
          obtain ⟨cells, r1, r2, r3⟩ := fillA_run ps qs.toList z cs zv.cells hp z6 z8 (by rw [← hpl] at hf; exact hf)
          refine ⟨.agg cells, ?_, .agg _ _ r2⟩
          simp only [Instr.build, Sem.run_bind, hzr, Result.andThen_ok, run_underlying' P w t _ hu, hm, r1, Sem.run_pure]
        · rename_i n e hu
          obtain ⟨fi, hfi⟩ := Option.isSome_iff_exists.1 hk
          have hpl : (fun i => some (i * P.cellsOf e, P.cellsOf e)) = placeQ P t := by
            funext j
            simp only [placeQ, hu]
          obtain ⟨cells, r1, r2, r3⟩ := fillA_run ps qs.toList z cs zv.cells hp z6 z8 (by rw [← hpl] at hf; exact hf)
          refine ⟨.agg cells, ?_, .agg _ _ r2⟩
          simp only [Instr.build, Sem.run_bind, hzr, Result.andThen_ok, run_underlying' P w t _ hu, run_sizeOf' P w e fi hfi, r1, Sem.run_pure]
        · cases hk
      · cases h
    · cases h
  · cases h

theorem evElems_run {G : Gh} {ag : Bool} {sz : Nat} : ∀ (ps : List (Nat × AV)) (qs : List (Nat × Value)) (k : Nat) (es : List AV) (cells : Array Value), PVR G ps qs → evElems ag sz k ps = some es → cells.size = (k + ps.length) * sz →
    ∃ cells' fl news, Instr.fill (fun i => some (i * sz, sz)) cells qs = some cells' ∧ flatQ es = some fl ∧ fl.length = es.length * sz ∧ es.length = ps.length ∧ sizesOk sz es = true ∧ VRL G fl news ∧ cells'.toList = cells.toList.take (k * sz) ++ news
  | [], qs, k, es, cells, hp, h, hs => by
    cases qs with
    | nil =>
      cases h
      refine ⟨cells, [], [], rfl, rfl, by simp, rfl, rfl, .nil, ?_⟩
      rw [List.take_of_length_le (by simp at hs ⊢; omega)]
      simp
    | cons _ _ => exact hp.elim
  | (i, a) :: ps, qs, k, es, cells, hp, h, hs => by
    cases qs with
    | nil => exact hp.elim
    | cons q qs =>
      obtain ⟨j, v⟩ := q
      obtain ⟨rfl, hv, hps⟩ := hp
      simp only [evElems] at h
      split at h
      · rename_i cs hcs
        split at h
        · rename_i hc
          obtain ⟨rfl, hlen, _⟩ := hc
          split at h
          · rename_i es' he
            cases h
            obtain ⟨n1, n2, n3⟩ := hv.cells hcs
            have hl := n1.length
            simp at hl
            simp only [List.length_cons] at hs
            have hks : i * sz + sz ≤ cells.size := by
              rw [hs, show (i + (ps.length + 1)) * sz = i * sz + sz + ps.length * sz by rw [Nat.add_mul, Nat.add_mul]; omega]
              omega
            obtain ⟨cells', fl, news, r1, r2, r3, r4, r5, r6, r7⟩ := evElems_run ps qs (i + 1) es' (putL (i * sz) v.cells.toList cells) hps he (by rw [putL_size, hs]; congr 1; omega)
            refine ⟨cells', cs ++ fl, v.cells.toList ++ news, ?_, by simp [flatQ, hcs, r2], by simp [hlen, r3, Nat.add_mul]; omega, by simp [r4], by simp [sizesOk, hcs, hlen, r5], n1.append r6, ?_⟩
            · simp only [Instr.fill]
              rw [if_neg (by simp; omega), fold_putL]
              exact r1
            · rw [r7, putL_toList _ _ _ (by simp; omega)]
              have e1 : (i + 1) * sz = i * sz + sz := by rw [Nat.add_mul]; omega
              have e2 : (List.take (i * sz) cells.toList ++ v.cells.toList).length = (i + 1) * sz := by simp; omega
              rw [← List.append_assoc, List.take_left' e2, List.append_assoc]
          · cases h
        · cases h
      · cases h

/-- a new row, all of which stays as it is -/
theorem Inv.newImm {w0 : World} {B : Nat} {G : Gh} {S : St} {w : World} (hi : Inv w0 B G S w) (ty : TypeId) {fl : List AV} {cells : Array Value} (hv : VRL G fl cells.toList) :
    ∃ G', Inv w0 B G' S (w.alloc (.cells cells ty)) ∧ Ext G w G' (w.alloc (.cells cells ty)) ∧ VRI G' fl w.heap.size 0 ∧ G'.nu = G.nu := by
  let G' : Gh := { G with I := fun b o => if b = w.heap.size then cells[o]? else G.I b o }
  have hIlt : ∀ b o v, G.I b o = some v → b < w.heap.size := fun b o v h => World.block_lt_of_cell? w _ (hi.imm b o v h)
  have hI : ∀ b o v, G.I b o = some v → G'.I b o = some v := fun b o v h => by
    have := hIlt b o v h
    show (if b = w.heap.size then cells[o]? else G.I b o) = some v
    rw [if_neg (by omega)]; exact h
  have hIn : ∀ b o, b < w.heap.size → G'.I b o = G.I b o := fun b o h => by
    show (if b = w.heap.size then cells[o]? else G.I b o) = _
    rw [if_neg (by omega)]
  have le : Gle G G' := ⟨hI, fun _ _ h => h, fun _ _ _ h => h, fun u n h => ⟨n, h, Nat.le_refl _, fun _ => rfl⟩, fun _ _ _ h => h⟩
  refine ⟨G', ⟨hi.gl, hi.below.alloc hi.base _, Nat.le_trans hi.base (by simp), fun b o v h => ?_, hi.fr, fun e bx h hty => ?_, hi.phid, hi.phij, fun u n h => ?_, hi.taud, hi.tauj, fun e b h => by have := hi.phil e b h; simp; omega, hi.tel, ?_⟩, ⟨le, by simp, fun _ _ h => .inl h, fun u x h => .inl h, fun b o v h => ?_, fun b hb _ _ _ => heap_alloc_lt w _ hb, fun i v b m h => .inl ⟨v, m, h⟩⟩, ?_, rfl⟩
  · by_cases hb : b = w.heap.size
    · subst hb
      have h' : cells[o]? = some v := by simpa [G'] using h
      rw [World.cell?_alloc_new]; exact h'
    · have h' : G.I b o = some v := by simpa [G', hb] using h
      rw [World.cell?_alloc_lt w _ _ (hIlt b o v h')]
      exact hi.imm b o v h'
  · obtain ⟨b, vs', k1, k2, k3, k4, k5, k6, k7, k8⟩ := hi.box e bx h hty
    exact ⟨b, vs', k1, k2, by rw [heap_alloc_lt w _ (lt_of_heap k3)]; exact k3, k4.mono le, fun o => by rw [hIn b o (lt_of_heap k3)]; exact k5 o, k6, k7, k8⟩
  · obtain ⟨b, m, vs', ty', fz, k1, k2, k3, k4, k5, k6, k7⟩ := hi.tok u n h
    refine ⟨b, m, vs', ty', fz, k1, k2, by rw [heap_alloc_lt w _ (lt_of_heap k3)]; exact k3, k4, fun o ho => by rw [hIn b o (lt_of_heap k3)]; exact k5 o ho, fun o ho => ?_, k7⟩
    rw [World.frozen?_of_block (w := w) (heap_alloc_lt w _ (lt_of_heap k3))]; exact k6 o ho
  · exact hi.ex.stay le rfl (fun e bx _ h => h) (Nat.le_refl _) (by simp) (fun b hb => heap_alloc_lt w _ (hb.lt hi)) (fun b hb o => by rw [hIn b o (hb.lt hi)]; exact hb.I hi o) (fun e b h => .inl h) (fun u x h => .inl h)
  · by_cases hb : b = w.heap.size
    · exact .inr (.inl (by omega))
    · exact .inl (by simpa [G', hb] using h)
  · exact VRI.of_vals (hv.mono le) fun j v hj => by
      show (if w.heap.size = w.heap.size then cells[0 + j]? else _) = some v
      rw [if_pos rfl, Nat.zero_add]; simpa using hj

theorem evBuildSlice_run {F : Fix} {P : Program} {fs : FS} {G : Gh} {w : World} {i : Nat} {t : TypeId} {n : Nat} {ps : List (Nat × AV)} {qs : Array (Nat × Value)} {r : AV} (hpre : Pre F fs G w) (hp : PVR G ps qs.toList) (h : evBuildSlice P t n ps = some r) :
    ∃ G' w' v, (Instr.buildSlice t n qs).run P w = .ok v w' ∧ Post F fs.c i G fs.b fs.S r G' w' v := by
  unfold evBuildSlice at h
  split at h
  · rename_i e he
    have hu := sliceQ_spec he
    split at h
    · rename_i z hz
      obtain ⟨ii, zv, z1, z2, z3, z4, z5, z6, z7, z8⟩ := zero_cells hz G
      split at h
      · rename_i hc
        obtain ⟨c1, c2, c3, c4⟩ := hc
        split at h
        · rename_i es hes
          cases h
          obtain ⟨cells, fl, news, r1, r2, r3, r4, r5, r6, r7⟩ := evElems_run ps qs.toList 0 es ((Array.range (n * P.cellsOf e)).map (zv.cells[· % zv.cells.size]!)) hp hes (by simp [c2])
          have hzr : (zeroValue e).run P w = .ok zv w := by simp [zeroValue, typeInfo, z1, z2]
          have hcl : cells.toList = news := by simpa using r7
          obtain ⟨G', i1, i2, i3, i4⟩ := hpre.inv.newImm e (fl := fl) (cells := cells) (by rw [hcl]; exact r6)
          refine ⟨G', w.alloc (.cells cells e), .slice (some ⟨w.heap.size, 0, none⟩) n n, ?_, ?_, i1, i2.le, hpre.ext.trans F.ie i2, hpre.loc.ext i2, fun _ _ h => absurd (congrFun (congrFun i4 _) _) h⟩
          · have h24 : ¬ (n * P.cellsOf e > 2 ^ 24) := by omega
            by_cases h0 : n * P.cellsOf e = 0
            · have hz0 : (Array.range 0 : Array Nat) = #[] := by rfl
              simp only [h0, hz0, Array.map_empty] at r1
              simp only [Instr.buildSlice, Sem.run_bind, run_underlying' P w t _ hu, Result.andThen_ok, run_sizeOf' P w e ii z1, h0, if_true, show ¬ (0 > 2 ^ 24) by omega, if_false, Sem.run_pure, Sem.run_ite, hz0, Array.map_empty, r1, newRow, run_newObj]
              rfl
            · simp only [Instr.buildSlice, Sem.run_bind, run_underlying' P w t _ hu, Result.andThen_ok, run_sizeOf' P w e ii z1, h24, h0, if_false, Sem.run_ite, hzr, r1, newRow, run_newObj, Sem.run_pure]
              rfl
          · have hlen : n = es.length := by omega
            rw [hlen]
            exact .slice es .clip fl _ 0 _ (P.cellsOf e) (Nat.le_refl _) r2 i3 rfl r5
        · cases h
      · cases h
    · cases h
  · cases h
end Go.Proofs.YtcpoinfdnimanaaGreatDoor.AE
/- Rows and maps: how they turn, and how they are made. No condition. -/
namespace Go.Proofs.YtcpoinfdnimanaaGreatDoor.AE
set_option linter.unusedVariables false
set_option linter.unusedSimpArgs false
open Go Go.RowKit

theorem rowC_spec {bx : HBox} {ver : Nat} {cs : List AV} (h : rowC bx ver = some cs) : rowT ≤ bx.ty ∧ bx.ty < mapT ∧ bx.cs = .int .i64 ver :: cs := by
  unfold rowC at h
  split at h
  · rename_i hc
    simp only [Bool.and_eq_true, decide_eq_true_eq] at hc
    split at h
    · rename_i v cells hcs
      split at h
      · rename_i hv
        cases h
        exact ⟨hc.1, hc.2, by rw [hcs, hv]⟩
      · cases h
    · cases h
  · cases h
/-- what is known of a row -/
theorem Inv.rowAt {w0 : World} {B : Nat} {G : Gh} {S : St} {w : World} (hi : Inv w0 B G S w) {id ver : Nat} {bx : HBox} {cs : List AV} (hb : S.H[id]? = some bx) (hr : rowC bx ver = some cs) {b m : Nat} (hk : G.rv id ver = some (b, m)) :
    ∃ vs : Array Value, m = vs.size ∧ w.heap[b]? = some (.cells vs (bx.ty - rowT) (0, 0)) ∧ VRL G cs (vs.toList.take cs.length) ∧ cs.length ≤ vs.size ∧ (∀ x ∈ vs.toList, oneV x = true) ∧ (∀ x ∈ cs, x.isCell = true) ∧ AV.sealedL cs = true ∧ (∀ v' x, G.rv id v' = some x → v' ≤ ver) := by
  obtain ⟨h1, h2, h3⟩ := rowC_spec hr
  obtain ⟨ver', cells, b', vs, k1, k2, k3, k4, k5, k6, k7, k8, k9⟩ := hi.ex.row id bx hb h1 h2
  rw [h3] at k1
  simp only [List.cons.injEq, AV.int.injEq, true_and] at k1
  obtain ⟨e1, rfl⟩ := k1
  obtain rfl : ver = ver' := by omega
  rw [hk] at k2
  cases k2
  exact ⟨vs, rfl, k3, k4, k5, k6, k7, k8, k9⟩

/-- A ROW TURNS: in its block, or in a new one. -/
theorem Inv.rowTurn {w0 : World} {B : Nat} {G : Gh} {S : St} {w w' : World} (hi : Inv w0 B G S w) {id ver ver' : Nat} {bx : HBox} {old cs : List AV} (hb : S.H[id]? = some bx) (hr : rowC bx ver = some old) {b m b2 : Nat} (hk : G.rv id ver = some (b, m))
    {vs' : Array Value} (c1 : (ver' = ver ∧ b2 = b ∧ vs'.size = m) ∨ (ver' = ver + 1 ∧ ((b2 = b ∧ vs'.size = m) ∨ w.heap.size ≤ b2)))
    (c2 : w'.heap[b2]? = some (.cells vs' (bx.ty - rowT) (0, 0))) (c3 : ∀ k, k < w.heap.size → k ≠ b → w'.heap[k]? = w.heap[k]?) (hz : w.heap.size ≤ w'.heap.size) (hbl : Below B w0 w')
    (c4 : VRL G cs (vs'.toList.take cs.length)) (c5 : cs.length ≤ vs'.size) (c6 : ∀ x ∈ vs'.toList, oneV x = true) (c7 : ∀ x ∈ cs, x.isCell = true) (c8 : AV.sealedL cs = true) :
    ∃ G', Inv w0 B G' { S with H := S.H.set id ⟨bx.ty, .int .i64 ver' :: cs⟩ } w' ∧ Ext G w G' w' ∧ G'.nu = G.nu ∧ G'.rv id ver' = some (b2, vs'.size) := by
  obtain ⟨vs, m1, m2, m3, m4, m5, m6, m7, m8⟩ := hi.rowAt hb hr hk
  obtain ⟨t1, t2, t3⟩ := rowC_spec hr
  have hid : id < S.H.length := hi.ex.rvd id ver _ hk
  have hblt : b < w.heap.size := (hi.ex.rvb id ver _ hk).2
  have hbB : B ≤ b := (hi.ex.rvb id ver _ hk).1
  let G' : Gh := { G with rv := fun i u => if i = id ∧ u = ver' then some (b2, vs'.size) else G.rv i u }
  have hnew : G'.rv id ver' = some (b2, vs'.size) := by simp [G']
  have hother : ∀ i u, ¬ (i = id ∧ u = ver') → G'.rv i u = G.rv i u := fun i u h => by simp [G', h]
  have hb2 : b2 = b ∨ w.heap.size ≤ b2 := by
    rcases c1 with ⟨_, h, _⟩ | ⟨_, ⟨h, _⟩ | h⟩
    · exact .inl h
    · exact .inl h
    · exact .inr h
  have hb2lt : b2 < w'.heap.size := lt_of_heap c2
  have le : Gle G G' := by
    refine ⟨fun _ _ _ h => h, fun _ _ h => h, fun _ _ _ h => h, fun t n h => ⟨n, h, Nat.le_refl _, fun _ => rfl⟩, fun i u x h => ?_⟩
    by_cases hc : i = id ∧ u = ver'
    · obtain ⟨rfl, rfl⟩ := hc
      have := m8 _ _ h
      rcases c1 with ⟨e1, e2, e3⟩ | ⟨e1, _⟩
      · subst e1 e2
        rw [hk] at h; cases h
        rw [hnew, e3]
      · omega
    · rw [hother i u hc]; exact h
  have hrv : ∀ i u x, G'.rv i u = some x → G.rv i u = some x ∨ (i = id ∧ u = ver' ∧ x = (b2, vs'.size)) := fun i u x h => by
    by_cases hc : i = id ∧ u = ver'
    · rw [hc.1, hc.2, hnew] at h; cases h; exact .inr ⟨hc.1, hc.2, rfl⟩
    · rw [hother i u hc] at h; exact .inl h
  have hI2 : ∀ o, G.I b2 o = none := fun o => by
    rcases hb2 with rfl | h
    · exact hi.ex.rvI id ver _ m o hk
    · cases hI : G.I b2 o with
      | none => rfl
      | some v => have := World.block_lt_of_cell? w _ (hi.imm _ _ _ hI); simp at this; omega
  have hp2 : ∀ j, G.phi j ≠ some b2 := fun j h => by
    rcases hb2 with rfl | h'
    · exact hi.ex.rvp id ver _ m j hk h
    · have := (hi.phil j b2 h).2; omega
  have htlt : ∀ t k m, G.tau t = some (k, m) → k < w.heap.size := fun t k m h => by
    obtain ⟨b', m', _, _, _, k1, _, k3, _⟩ := hi.tok t _ (List.getElem?_eq_getElem (hi.taud t _ h))
    rw [h] at k1; cases k1; exact lt_of_heap k3
  have ht2 : ∀ t k, G.tau t ≠ some (b2, k) := fun t k h => by
    rcases hb2 with rfl | h'
    · exact hi.ex.rvt id ver _ m t k hk h
    · have := htlt t b2 k h; omega
  have hH : ∀ (i : Nat) (x : HBox), i ≠ id → (S.H.set id ⟨bx.ty, .int .i64 ver' :: cs⟩)[i]? = some x → S.H[i]? = some x := fun i x hne h => by
    rwa [List.getElem?_set_ne (Ne.symm hne)] at h
  have hself : (S.H.set id ⟨bx.ty, .int .i64 ver' :: cs⟩)[id]? = some ⟨bx.ty, .int .i64 ver' :: cs⟩ := List.getElem?_set_self hid
  have same : ∀ k o, k ≠ b → w.heap[k]? = some o → w'.heap[k]? = some o := fun k o hne h => by rw [c3 k (lt_of_heap h) hne]; exact h
  refine ⟨G', ⟨hi.gl, hbl, Nat.le_trans hi.base hz, fun k o v h => ?_, hi.fr, fun i x h hty => ?_, fun i k h => ?_, hi.phij, fun t n h => ?_, hi.taud, hi.tauj, fun i k h => ?_, fun i x h q1 q2 => ?_, ⟨fun i x h q1 q2 => ?_, fun i x h q1 => ?_, fun i u x h => ?_, fun i u x h => ?_, fun i j u v k n n' h1 h2 => ?_, fun i u k n j h1 h2 => ?_, fun i u k n t n' h1 h2 => ?_, fun i u k n o h1 => ?_, fun t k n h i x hx q1 h2 => ?_⟩⟩, ⟨le, hz, fun _ _ h => .inl h, fun _ _ h => .inl h, fun _ _ _ h => .inl h, fun k hk' h1 h2 h3 => ?_, fun i u k n h => ?_⟩, rfl, hnew⟩
  · have hc := hi.imm k o v h
    have hlt := World.block_lt_of_cell? w _ hc
    have hne : k ≠ b := fun e => by subst e; have := hi.ex.rvI id ver k m o hk; rw [h] at this; cases this
    rw [World.cell?_of_block (w := w) (w' := w') (c3 k hlt hne)]
    exact hc
  · have hne : i ≠ id := fun e => by
      subst e; rw [hself] at h; cases h; exact absurd t1 (Nat.not_le.2 hty)
    obtain ⟨k, us, k1, k2, k3, k4, k5, k6, k7, k8⟩ := hi.box i x (hH i x hne h) hty
    have hkb : k ≠ b := fun e => by subst e; exact hi.ex.rvp id ver k m i hk k1
    exact ⟨k, us, k1, k2, same k _ hkb k3, k4.mono le, k5, k6, k7, k8⟩
  · have := hi.phid i k h; simpa using this
  · obtain ⟨k, n', us, ty, fz, k1, k2, k3, k4, k5, k6, k7⟩ := hi.tok t n h
    have hkb : k ≠ b := fun e => by subst e; exact hi.ex.rvt id ver k m t n' hk k1
    refine ⟨k, n', us, ty, fz, k1, k2, same k _ hkb k3, k4, k5, fun o ho => ?_, k7⟩
    rw [World.frozen?_of_block (w := w) (c3 k (lt_of_heap k3) hkb)]; exact k6 o ho
  · have := hi.phil i k h; omega
  · by_cases hne : i = id
    · subst hne; exact hi.tel i bx hb t1 t2
    · exact hi.tel i x (hH i x hne h) q1 q2
  · by_cases hne : i = id
    · subst hne
      rw [hself] at h; cases h
      refine ⟨ver', cs, b2, vs', rfl, hnew, c2, c4.mono le, c5, c6, c7, c8, fun u x hu => ?_⟩
      rcases hrv _ _ _ hu with hu | ⟨_, rfl, _⟩
      · have := m8 u x hu
        rcases c1 with ⟨e1, _⟩ | ⟨e1, _⟩ <;> omega
      · omega
    · obtain ⟨v1, cells, k, us, k1, k2, k3, k4, k5, k6, k7, k8, k9⟩ := hi.ex.row i x (hH i x hne h) q1 q2
      have hkb : k ≠ b := fun e => by subst e; exact hne (hi.ex.rvj i id v1 ver k _ _ k2 hk)
      refine ⟨v1, cells, k, us, k1, by rw [hother i v1 (fun h => hne h.1)]; exact k2, same k _ hkb k3, k4.mono le, k5, k6, k7, k8, fun u y hu => ?_⟩
      rw [hother i u (fun h => hne h.1)] at hu
      exact k9 u y hu
  · have hne : i ≠ id := fun e => by
      subst e; rw [hself] at h; cases h; exact absurd q1 (Nat.not_le.2 t2)
    obtain ⟨k, es, cl, k1, k2, k3, k4, k5⟩ := hi.ex.mp i x (hH i x hne h) q1
    have hkb : k ≠ b := fun e => by subst e; exact hi.ex.rvp id ver k m i hk k1
    exact ⟨k, es, cl, k1, k2, same k _ hkb k3, k4.mono le, k5⟩
  · rcases hrv i u x h with h | ⟨rfl, _, _⟩
    · have := hi.ex.rvd i u x h; simpa using this
    · simpa using hid
  · rcases hrv i u x h with h | ⟨_, _, rfl⟩
    · have := hi.ex.rvb i u x h; omega
    · simp only
      rcases hb2 with e | e
      · rw [e] at hb2lt ⊢; exact ⟨hbB, hb2lt⟩
      · exact ⟨Nat.le_trans hi.base e, hb2lt⟩
  · rcases hrv i u _ h1 with h1 | ⟨e1, _, e2⟩ <;> rcases hrv j v _ h2 with h2 | ⟨f1, _, f2⟩
    · exact hi.ex.rvj i j u v k n n' h1 h2
    · cases f2
      rcases hb2 with e | e
      · subst e; rw [f1]; exact hi.ex.rvj i id u ver _ n m h1 hk
      · have := (hi.ex.rvb i u _ h1).2; simp at this; omega
    · cases e2
      rcases hb2 with e | e
      · subst e; rw [e1]; exact (hi.ex.rvj j id v ver _ n' m h2 hk).symm
      · have := (hi.ex.rvb j v _ h2).2; simp at this; omega
    · rw [e1, f1]
  · rcases hrv i u _ h1 with h1 | ⟨_, _, e⟩
    · exact hi.ex.rvp i u k n j h1 h2
    · cases e; exact hp2 j h2
  · rcases hrv i u _ h1 with h1 | ⟨_, _, e⟩
    · exact hi.ex.rvt i u k n t n' h1 h2
    · cases e; exact ht2 t n' h2
  · rcases hrv i u _ h1 with h1 | ⟨_, _, e⟩
    · exact hi.ex.rvI i u k n o h1
    · cases e; exact hI2 o
  · have hne : i ≠ id := fun e => by
      subst e; rw [hself] at hx; cases hx; exact absurd q1 (Nat.not_le.2 t2)
    exact hi.ex.mpt t k n h i x (hH i x hne hx) q1 h2
  · exact c3 k hk' fun e => by subst e; exact h3 id ver m hk
  · rcases hrv i u _ h with h | ⟨e1, _, e⟩
    · exact .inl ⟨u, n, h⟩
    · cases e
      rcases hb2 with e | e
      · subst e; rw [e1]; exact .inl ⟨ver, m, hk⟩
      · exact .inr e

/-- A NEW ROW. -/
theorem Inv.rowNew {w0 : World} {B : Nat} {G : Gh} {S : St} {w : World} (hi : Inv w0 B G S w) {e : TypeId} (he : rowT + e < mapT) {cs : List AV} {vs : Array Value}
    (c4 : VRL G cs (vs.toList.take cs.length)) (c5 : cs.length ≤ vs.size) (c6 : ∀ x ∈ vs.toList, oneV x = true) (c7 : ∀ x ∈ cs, x.isCell = true) (c8 : AV.sealedL cs = true) :
    ∃ G', Inv w0 B G' { S with H := S.H ++ [⟨rowT + e, .int .i64 0 :: cs⟩] } (w.alloc (.cells vs e)) ∧ Ext G w G' (w.alloc (.cells vs e)) ∧ G'.nu = G.nu ∧ G'.rv S.H.length 0 = some (w.heap.size, vs.size) := by
  let G' : Gh := { G with rv := fun i u => if i = S.H.length ∧ u = 0 then some (w.heap.size, vs.size) else G.rv i u }
  have hnew : G'.rv S.H.length 0 = some (w.heap.size, vs.size) := by simp [G']
  have hother : ∀ i u, ¬ (i = S.H.length ∧ u = 0) → G'.rv i u = G.rv i u := fun i u h => by simp [G', h]
  have hrv : ∀ i u x, G'.rv i u = some x → G.rv i u = some x ∨ (i = S.H.length ∧ u = 0 ∧ x = (w.heap.size, vs.size)) := fun i u x h => by
    by_cases hc : i = S.H.length ∧ u = 0
    · rw [hc.1, hc.2, hnew] at h; cases h; exact .inr ⟨hc.1, hc.2, rfl⟩
    · rw [hother i u hc] at h; exact .inl h
  have le : Gle G G' := by
    refine ⟨fun _ _ _ h => h, fun _ _ h => h, fun _ _ _ h => h, fun t n h => ⟨n, h, Nat.le_refl _, fun _ => rfl⟩, fun i u x h => ?_⟩
    rw [hother i u fun hc => by have := hi.ex.rvd i u x h; omega]; exact h
  have hH : ∀ (i : Nat) (x : HBox), (S.H ++ [⟨rowT + e, .int .i64 0 :: cs⟩])[i]? = some x → S.H[i]? = some x ∨ (i = S.H.length ∧ x = ⟨rowT + e, .int .i64 0 :: cs⟩) := fun i x h => by
    rw [List.getElem?_append] at h
    split at h
    · exact .inl h
    · rename_i hge
      have h0 : i - S.H.length = 0 := by
        rcases Nat.lt_or_ge (i - S.H.length) 1 with h' | h'
        · omega
        · rw [List.getElem?_eq_none (by simpa using h')] at h; cases h
      rw [h0] at h
      simp at h
      exact .inr ⟨by omega, h.symm⟩
  have same : ∀ k o, w.heap[k]? = some o → (w.alloc (.cells vs e)).heap[k]? = some o := fun k o h => by rw [heap_alloc_lt w _ (lt_of_heap h)]; exact h
  have hIlt : ∀ b o v, G.I b o = some v → b < w.heap.size := fun b o v h => World.block_lt_of_cell? w _ (hi.imm b o v h)
  have htlt : ∀ t k m, G.tau t = some (k, m) → k < w.heap.size := fun t k m h => by
    obtain ⟨b', m', _, _, _, k1, _, k3, _⟩ := hi.tok t _ (List.getElem?_eq_getElem (hi.taud t _ h))
    rw [h] at k1; cases k1; exact lt_of_heap k3
  refine ⟨G', ⟨hi.gl, hi.below.alloc hi.base _, Nat.le_trans hi.base (by simp), fun k o v h => ?_, hi.fr, fun i x h hty => ?_, fun i k h => ?_, hi.phij, fun t n h => ?_, hi.taud, hi.tauj, fun i k h => ?_, fun i x h q1 q2 => ?_, ⟨fun i x h q1 q2 => ?_, fun i x h q1 => ?_, fun i u x h => ?_, fun i u x h => ?_, fun i j u v k n n' h1 h2 => ?_, fun i u k n j h1 h2 => ?_, fun i u k n t n' h1 h2 => ?_, fun i u k n o h1 => ?_, fun t k n h i x hx q1 h2 => ?_⟩⟩, ⟨le, by simp, fun _ _ h => .inl h, fun _ _ h => .inl h, fun _ _ _ h => .inl h, fun k hk' h1 h2 h3 => heap_alloc_lt w _ hk', fun i u k n h => ?_⟩, rfl, hnew⟩
  · rw [World.cell?_alloc_lt w _ _ (hIlt k o v h)]
    exact hi.imm k o v h
  · rcases hH i x h with h | ⟨_, rfl⟩
    · obtain ⟨k, us, k1, k2, k3, k4, k5, k6, k7, k8⟩ := hi.box i x h hty
      exact ⟨k, us, k1, k2, same k _ k3, k4.mono le, k5, k6, k7, k8⟩
    · exact absurd hty (Nat.not_lt.2 (Nat.le_add_right _ _))
  · have := hi.phid i k h; simp; omega
  · obtain ⟨k, n', us, ty, fz, k1, k2, k3, k4, k5, k6, k7⟩ := hi.tok t n h
    refine ⟨k, n', us, ty, fz, k1, k2, same k _ k3, k4, k5, fun o ho => ?_, k7⟩
    rw [World.frozen?_of_block (w := w) (heap_alloc_lt w _ (lt_of_heap k3))]; exact k6 o ho
  · have := hi.phil i k h; simp; omega
  · rcases hH i x h with h | ⟨hl, _⟩
    · exact hi.tel i x h q1 q2
    · cases hph : G.phi i with
      | none => rfl
      | some k => have := hi.phid i k hph; omega
  · rcases hH i x h with h | ⟨rfl, rfl⟩
    · have hlt := (List.getElem?_eq_some_iff.1 h).1
      obtain ⟨v1, cells, k, us, k1, k2, k3, k4, k5, k6, k7, k8, k9⟩ := hi.ex.row i x h q1 q2
      refine ⟨v1, cells, k, us, k1, by rw [hother i v1 (fun h => by omega)]; exact k2, same k _ k3, k4.mono le, k5, k6, k7, k8, fun u y hu => ?_⟩
      rw [hother i u (fun h => by omega)] at hu
      exact k9 u y hu
    · refine ⟨0, cs, w.heap.size, vs, rfl, hnew, ?_, c4.mono le, c5, c6, c7, c8, fun u y hu => ?_⟩
      · rw [heap_alloc_at]; simp
      · rcases hrv _ _ _ hu with hu | ⟨_, rfl, _⟩
        · have := hi.ex.rvd _ _ _ hu; omega
        · omega
  · rcases hH i x h with h | ⟨_, rfl⟩
    · obtain ⟨k, es, cl, k1, k2, k3, k4, k5⟩ := hi.ex.mp i x h q1
      exact ⟨k, es, cl, k1, k2, same k _ k3, k4.mono le, k5⟩
    · simp at q1; omega
  · rcases hrv i u x h with h | ⟨rfl, _, _⟩
    · have := hi.ex.rvd i u x h; simp; omega
    · simp
  · rcases hrv i u x h with h | ⟨_, _, rfl⟩
    · have := hi.ex.rvb i u x h; simp; omega
    · have := hi.base; simp; omega
  · rcases hrv i u _ h1 with h1 | ⟨e1, _, e2⟩ <;> rcases hrv j v _ h2 with h2 | ⟨f1, _, f2⟩
    · exact hi.ex.rvj i j u v k n n' h1 h2
    · cases f2; have := (hi.ex.rvb i u _ h1).2; simp at this
    · cases e2; have := (hi.ex.rvb j v _ h2).2; simp at this
    · rw [e1, f1]
  · rcases hrv i u _ h1 with h1 | ⟨_, _, e⟩
    · exact hi.ex.rvp i u k n j h1 h2
    · cases e; have := (hi.phil j _ h2).2; omega
  · rcases hrv i u _ h1 with h1 | ⟨_, _, e⟩
    · exact hi.ex.rvt i u k n t n' h1 h2
    · cases e; have := htlt t _ _ h2; omega
  · rcases hrv i u _ h1 with h1 | ⟨_, _, e⟩
    · exact hi.ex.rvI i u k n o h1
    · cases e
      show G.I w.heap.size o = none
      cases hI : G.I w.heap.size o with
      | none => rfl
      | some v => have := hIlt _ _ _ hI; omega
  · rcases hH i x hx with hx | ⟨_, rfl⟩
    · exact hi.ex.mpt t k n h i x hx q1 h2
    · simp at q1; omega
  · rcases hrv i u _ h with h | ⟨_, _, e⟩
    · exact .inl ⟨u, n, h⟩
    · cases e; exact .inr (Nat.le_refl _)

/-- A NEW MAP. -/
theorem Inv.mapNew {w0 : World} {B : Nat} {G : Gh} {S : St} {w : World} (hi : Inv w0 B G S w) {ty : TypeId} (hty : mapT ≤ ty) {l : List AV} {es : Array MapEntry} {clock : Nat} (hr : EntR G l es.toList) :
    ∃ G', Inv w0 B G' { S with H := S.H ++ [⟨ty, l⟩] } (w.alloc (.map es clock)) ∧ Ext G w G' (w.alloc (.map es clock)) ∧ G'.nu = G.nu ∧ G'.phi S.H.length = some w.heap.size := by
  let G' : Gh := { G with phi := fun i => if i = S.H.length then some w.heap.size else G.phi i }
  have hnew : G'.phi S.H.length = some w.heap.size := by simp [G']
  have hphi : ∀ i k, G'.phi i = some k → G.phi i = some k ∧ k < w.heap.size ∨ i = S.H.length ∧ k = w.heap.size := fun i k h => by
    by_cases hc : i = S.H.length
    · rw [hc, hnew] at h; cases h; exact .inr ⟨hc, rfl⟩
    · have h' : G.phi i = some k := by simpa [G', hc] using h
      exact .inl ⟨h', (hi.phil i k h').2⟩
  have hold : ∀ i k, G.phi i = some k → G'.phi i = some k := fun i k h => by
    have := hi.phid i k h
    simp [G', show ¬ i = S.H.length by omega, h]
  have le : Gle G G' := ⟨fun _ _ _ h => h, hold, fun _ _ _ h => h, fun t n h => ⟨n, h, Nat.le_refl _, fun _ => rfl⟩, fun _ _ _ h => h⟩
  have hH : ∀ (i : Nat) (x : HBox), (S.H ++ [⟨ty, l⟩])[i]? = some x → (i < S.H.length ∧ S.H[i]? = some x) ∨ (i = S.H.length ∧ x = ⟨ty, l⟩) := fun i x h => by
    rw [List.getElem?_append] at h
    split at h
    · rename_i hlt; exact .inl ⟨hlt, h⟩
    · rename_i hge
      have h0 : i - S.H.length = 0 := by
        rcases Nat.lt_or_ge (i - S.H.length) 1 with h' | h'
        · omega
        · rw [List.getElem?_eq_none (by simpa using h')] at h; cases h
      rw [h0] at h
      simp at h
      exact .inr ⟨by omega, h.symm⟩
  have same : ∀ k o, w.heap[k]? = some o → (w.alloc (.map es clock)).heap[k]? = some o := fun k o h => by rw [heap_alloc_lt w _ (lt_of_heap h)]; exact h
  have hIlt : ∀ b o v, G.I b o = some v → b < w.heap.size := fun b o v h => World.block_lt_of_cell? w _ (hi.imm b o v h)
  have htlt : ∀ t k m, G.tau t = some (k, m) → k < w.heap.size := fun t k m h => by
    obtain ⟨b', m', _, _, _, k1, _, k3, _⟩ := hi.tok t _ (List.getElem?_eq_getElem (hi.taud t _ h))
    rw [h] at k1; cases k1; exact lt_of_heap k3
  have rm : rowT ≤ mapT := by decide
  refine ⟨G', ⟨hi.gl, hi.below.alloc hi.base _, Nat.le_trans hi.base (by simp), fun k o v h => ?_, hi.fr, fun i x h hty' => ?_, fun i k h => ?_, fun i j k h1 h2 => ?_, fun t n h => ?_, hi.taud, hi.tauj, fun i k h => ?_, fun i x h q1 q2 => ?_, ⟨fun i x h q1 q2 => ?_, fun i x h q1 => ?_, fun i u x h => ?_, fun i u x h => ?_, hi.ex.rvj, fun i u k n j h1 h2 => ?_, hi.ex.rvt, hi.ex.rvI, fun t k n h i x hx q1 h2 => ?_⟩⟩, ⟨le, by simp, fun i k h => (hphi i k h).elim (fun h => .inl h.1) fun h => .inr (by omega), fun _ _ h => .inl h, fun _ _ _ h => .inl h, fun k hk' h1 h2 h3 => heap_alloc_lt w _ hk', fun i u k n h => .inl ⟨u, n, h⟩⟩, rfl, hnew⟩
  · rw [World.cell?_alloc_lt w _ _ (hIlt k o v h)]
    exact hi.imm k o v h
  · rcases hH i x h with ⟨_, h⟩ | ⟨_, rfl⟩
    · obtain ⟨k, us, k1, k2, k3, k4, k5, k6, k7, k8⟩ := hi.box i x h hty'
      exact ⟨k, us, hold _ _ k1, k2, same k _ k3, k4.mono le, k5, k6, k7, k8⟩
    · exact absurd (Nat.le_trans rm hty) (Nat.not_le.2 hty')
  · rcases hphi i k h with h | h
    · have := hi.phid i k h.1; simp; omega
    · simp; omega
  · rcases hphi i k h1 with h1 | h1 <;> rcases hphi j k h2 with h2 | h2
    · exact hi.phij i j k h1.1 h2.1
    · omega
    · omega
    · omega
  · obtain ⟨k, n', us, ty, fz, k1, k2, k3, k4, k5, k6, k7⟩ := hi.tok t n h
    refine ⟨k, n', us, ty, fz, k1, k2, same k _ k3, k4, k5, fun o ho => ?_, fun i hk => ?_⟩
    · rw [World.frozen?_of_block (w := w) (heap_alloc_lt w _ (lt_of_heap k3))]; exact k6 o ho
    · have := lt_of_heap k3
      rcases hphi i k hk with h | h
      · exact k7 i h.1
      · omega
  · have hb := hi.base
    rcases hphi i k h with h | h
    · have := hi.phil i k h.1; simp; omega
    · simp; omega
  · rcases hH i x h with ⟨hlt, h⟩ | ⟨_, rfl⟩
    · have := hi.tel i x h q1 q2
      simp [G', show ¬ i = S.H.length by omega, this]
    · exact absurd hty (Nat.not_le.2 q2)
  · rcases hH i x h with ⟨hlt, h⟩ | ⟨_, rfl⟩
    · obtain ⟨v1, cells, k, us, k1, k2, k3, k4, k5, k6, k7, k8, k9⟩ := hi.ex.row i x h q1 q2
      exact ⟨v1, cells, k, us, k1, k2, same k _ k3, k4.mono le, k5, k6, k7, k8, k9⟩
    · exact absurd hty (Nat.not_le.2 q2)
  · rcases hH i x h with ⟨hlt, h⟩ | ⟨rfl, rfl⟩
    · obtain ⟨k, es', cl, k1, k2, k3, k4, k5⟩ := hi.ex.mp i x h q1
      exact ⟨k, es', cl, hold _ _ k1, k2, same k _ k3, k4.mono le, k5⟩
    · refine ⟨w.heap.size, es, clock, hnew, hi.base, heap_alloc_at w _, hr.mono le, fun o => ?_⟩
      show G.I w.heap.size o = none
      cases hI : G.I w.heap.size o with
      | none => rfl
      | some v => have := hIlt _ _ _ hI; omega
  · have := hi.ex.rvd i u x h; simp; omega
  · have := hi.ex.rvb i u x h; simp; omega
  · rcases hphi j k h2 with h2 | h2
    · exact hi.ex.rvp i u k n j h1 h2.1
    · have := (hi.ex.rvb i u _ h1).2; simp at this; omega
  · rcases hphi i k h2 with h2 | h2
    · rcases hH i x hx with ⟨hlt, hx⟩ | ⟨rfl, rfl⟩
      · exact hi.ex.mpt t k n h i x hx q1 h2.1
      · have := hi.phid _ _ h2.1; omega
    · have := htlt t k n h; omega

/-- A MAP TURNS. -/
theorem Inv.mapTurn {w0 : World} {B : Nat} {G : Gh} {S : St} {w w' : World} (hi : Inv w0 B G S w) {id : Nat} {bx : HBox} (hb : S.H[id]? = some bx) (hty : mapT ≤ bx.ty) {b : Nat} (hk : G.phi id = some b)
    {l : List AV} {es : Array MapEntry} {clock : Nat} (hr : EntR G l es.toList) (c2 : w'.heap[b]? = some (.map es clock)) (c3 : ∀ k, k ≠ b → w'.heap[k]? = w.heap[k]?) (hz : w'.heap.size = w.heap.size) (hbl : Below B w0 w') :
    Inv w0 B G { S with H := S.H.set id ⟨bx.ty, l⟩ } w' ∧ Ext G w G w' := by
  obtain ⟨b', es0, cl0, m1, m2, m3, m4, m5⟩ := hi.ex.mp id bx hb hty
  rw [hk] at m1; cases m1
  have hid : id < S.H.length := hi.phid id b hk
  have rm : rowT ≤ mapT := by decide
  have hH : ∀ (i : Nat) (x : HBox), i ≠ id → (S.H.set id ⟨bx.ty, l⟩)[i]? = some x → S.H[i]? = some x := fun i x hne h => by
    rwa [List.getElem?_set_ne (Ne.symm hne)] at h
  have hself : (S.H.set id ⟨bx.ty, l⟩)[id]? = some ⟨bx.ty, l⟩ := List.getElem?_set_self hid
  have same : ∀ k o, k ≠ b → w.heap[k]? = some o → w'.heap[k]? = some o := fun k o hne h => by rw [c3 k hne]; exact h
  refine ⟨⟨hi.gl, hbl, by rw [hz]; exact hi.base, fun k o v h => ?_, hi.fr, fun i x h hty' => ?_, fun i k h => ?_, hi.phij, fun t n h => ?_, hi.taud, hi.tauj, fun i k h => by rw [hz]; exact hi.phil i k h, fun i x h q1 q2 => ?_, ⟨fun i x h q1 q2 => ?_, fun i x h q1 => ?_, fun i u x h => ?_, fun i u x h => by rw [hz]; exact hi.ex.rvb i u x h, hi.ex.rvj, hi.ex.rvp, hi.ex.rvt, hi.ex.rvI, fun t k n h i x hx q1 h2 => ?_⟩⟩, ⟨.refl G, by rw [hz]; exact Nat.le_refl _, fun _ _ h => .inl h, fun _ _ h => .inl h, fun _ _ _ h => .inl h, fun k hk' h1 h2 h3 => c3 k fun e => by subst e; exact h1 id hk, fun i u k n h => .inl ⟨u, n, h⟩⟩⟩
  · have hc := hi.imm k o v h
    have hne : k ≠ b := fun e => by subst e; rw [m5 o] at h; cases h
    rw [World.cell?_of_block (w := w) (w' := w') (c3 k hne)]
    exact hc
  · have hne : i ≠ id := fun e => by
      subst e; rw [hself] at h; cases h; exact absurd (Nat.le_trans rm hty) (Nat.not_le.2 hty')
    obtain ⟨k, us, k1, k2, k3, k4, k5, k6, k7, k8⟩ := hi.box i x (hH i x hne h) hty'
    exact ⟨k, us, k1, k2, same k _ (fun e => by subst e; exact hne (hi.phij i id k k1 hk)) k3, k4, k5, k6, k7, k8⟩
  · have := hi.phid i k h; simpa using this
  · obtain ⟨k, n', us, ty, fz, k1, k2, k3, k4, k5, k6, k7⟩ := hi.tok t n h
    have hkb : k ≠ b := fun e => by subst e; exact k7 id hk
    refine ⟨k, n', us, ty, fz, k1, k2, same k _ hkb k3, k4, k5, fun o ho => ?_, k7⟩
    rw [World.frozen?_of_block (w := w) (c3 k hkb)]; exact k6 o ho
  · have hne : i ≠ id := fun e => by
      subst e; rw [hself] at h; cases h; exact absurd hty (Nat.not_le.2 q2)
    exact hi.tel i x (hH i x hne h) q1 q2
  · have hne : i ≠ id := fun e => by
      subst e; rw [hself] at h; cases h; exact absurd hty (Nat.not_le.2 q2)
    obtain ⟨v1, cells, k, us, k1, k2, k3, k4, k5, k6, k7, k8, k9⟩ := hi.ex.row i x (hH i x hne h) q1 q2
    exact ⟨v1, cells, k, us, k1, k2, same k _ (fun e => by subst e; exact hi.ex.rvp i v1 k _ id k2 hk) k3, k4, k5, k6, k7, k8, k9⟩
  · by_cases hne : i = id
    · subst hne
      rw [hself] at h; cases h
      exact ⟨b, es, clock, hk, m2, c2, hr, m5⟩
    · obtain ⟨k, es', cl, k1, k2, k3, k4, k5⟩ := hi.ex.mp i x (hH i x hne h) q1
      exact ⟨k, es', cl, k1, k2, same k _ (fun e => by subst e; exact hne (hi.phij i id k k1 hk)) k3, k4, k5⟩
  · have := hi.ex.rvd i u x h; simpa using this
  · by_cases hne : i = id
    · subst hne; exact hi.ex.mpt t k n h i bx hb hty h2
    · exact hi.ex.mpt t k n h i x (hH i x hne hx) q1 h2
end Go.Proofs.YtcpoinfdnimanaaGreatDoor.AE
/- Rows: how they are read, written on, appended to, copied and cleared. No condition. -/
namespace Go.Proofs.YtcpoinfdnimanaaGreatDoor.AE
set_option linter.unusedVariables false
set_option linter.unusedSimpArgs false
open Go Go.RowKit

theorem Post.turn {F : Fix} {fs : FS} {G : Gh} {w : World} {i : Nat} {v : AV} {G' : Gh} {w' : World} {v' : Value} {S' : St} (hp : Pre F fs G w) (hi : Inv F.w0 F.B G' S' w') (he : Ext G w G' w') (hn : G'.nu = G.nu) (hv : VR G' v v') :
    Post F fs.c i G fs.b S' v G' w' v' :=
  ⟨hv, hi, he.le, hp.ext.trans F.ie he, hp.loc.ext he, fun _ _ h => absurd (congrFun (congrFun hn _) _) h⟩

/-- what a row holds, from a place on -/
theorem row_cells {w0 : World} {B : Nat} {G : Gh} {S : St} {w : World} (hi : Inv w0 B G S w) {id ver : Nat} {bx : HBox} {cs : List AV} (hb : S.H[id]? = some bx) (hr : rowC bx ver = some cs) {b m : Nat} (hk : G.rv id ver = some (b, m)) (off : Nat) :
    Cells G w (cs.drop off) b off := by
  obtain ⟨vs, _, h2, h3, h4, _⟩ := hi.rowAt hb hr hk
  refine ⟨(vs.toList.take cs.length).drop off, h3.drop off, fun j v hj => ?_⟩
  rw [cell_of_heap h2]
  rw [List.getElem?_drop, List.getElem?_take] at hj
  split at hj
  · rw [← Array.getElem?_toList]; exact hj
  · cases hj

/-- cells are written on a row -/
theorem row_write {w0 : World} {B : Nat} {G : Gh} {S : St} {w : World} (hi : Inv w0 B G S w) {id ver : Nat} {bx : HBox} {old : List AV} (hb : S.H[id]? = some bx) (hr : rowC bx ver = some old) {b m : Nat} (hk : G.rv id ver = some (b, m))
    {off : Nat} {new cs : List AV} {nv : List Value} (hw : wrc off new old = some cs) (hse : AV.sealedL new = true) (hv : VRL G new nv) (h1 : ∀ x ∈ nv, oneV x = true) (h2 : ∀ x ∈ new, x.isCell = true) :
    (∀ j, j < nv.length → (w.cell? ⟨b, off + j, none⟩).isSome = true) ∧ (∀ j, j < nv.length → w.frozen? ⟨b, off + j, none⟩ = false) ∧
    ∃ G', Inv w0 B G' { S with H := S.H.set id ⟨bx.ty, .int .i64 ver :: cs⟩ } (setL b off nv w) ∧ Ext G w G' (setL b off nv w) ∧ G'.nu = G.nu ∧ G'.rv id ver = some (b, m) := by
  obtain ⟨vs, m1, m2, m3, m4, m5, m6, m7, m8⟩ := hi.rowAt hb hr hk
  obtain ⟨hle, rfl⟩ := wrc_spec hw
  have hlen := hv.length
  have hB : B ≤ b := (hi.ex.rvb id ver _ hk).1
  refine ⟨fun j hj => ?_, fun j _ => frozen_of_heap m2, ?_⟩
  · rw [cell_of_heap m2]; simp; omega
  · have hcl : (old.take off ++ (new ++ old.drop (off + new.length))).length = old.length := by simp; omega
    have hpl : (putL off nv vs).toList.take old.length = (vs.toList.take old.length).take off ++ (nv ++ (vs.toList.take old.length).drop (off + new.length)) := by
      rw [putL_toList nv off vs (by omega), List.take_append, List.take_append]
      have e1 : (vs.toList.take off).length = off := by simp; omega
      rw [e1, List.take_take, List.take_take, show min old.length off = off by omega, show min off old.length = off by omega, List.take_of_length_le (show nv.length ≤ old.length - off by omega), List.drop_take, ← hlen,
        show old.length - off - nv.length = old.length - (off + nv.length) by omega]
    obtain ⟨G', g1, g2, g3, g4⟩ := hi.rowTurn (ver' := ver) (cs := old.take off ++ (new ++ old.drop (off + new.length))) (vs' := putL off nv vs) (w' := setL b off nv w) hb hr hk (.inl ⟨rfl, rfl, by rw [putL_size, m1]⟩)
      (setL_heap_same nv off w vs _ _ m2) (fun k _ hkb => setL_heap_other nv off w k hkb) (by rw [setL_size]; exact Nat.le_refl _) (setL_below hB nv off w hi.below)
      (by rw [hcl, hpl]; exact (m3.take off).append (hv.append (m3.drop _)))
      (by rw [hcl, putL_size]; exact m4) (putL_one (by omega) h1 m5) (wrc_mem hw h2 m6) (sealedL_mem.2 (wrc_mem hw (sealedL_mem.1 hse) (sealedL_mem.1 m7)))
    exact ⟨G', g1, g2, g3, by rw [g4, putL_size, m1]⟩

/-- A store into a row. -/
theorem store_row {F : Fix} {i id ver off b m : Nat} {G : Gh} {w : World} {fs : FS} {bx : HBox} {old new cs : List AV} {nv : List Value}
    (hp : Pre F fs G w) (hb : fs.S.H[id]? = some bx) (hr : rowC bx ver = some old) (hk : G.rv id ver = some (b, m)) (hw : wrc off new old = some cs) (hse : AV.sealedL new = true)
    (hv : VRL G new nv) (h1 : ∀ x ∈ nv, oneV x = true) (h2 : ∀ x ∈ new, x.isCell = true) :
    (∀ j, j < nv.length → (w.cell? ⟨b, off + j, none⟩).isSome = true) ∧ (∀ j, j < nv.length → w.frozen? ⟨b, off + j, none⟩ = false) ∧
    ∃ G', Post F fs.c i G fs.b { fs.S with H := fs.S.H.set id ⟨bx.ty, .int .i64 ver :: cs⟩ } .undef G' (setL b off nv w) (.tuple #[]) := by
  obtain ⟨r1, r2, G', g1, g2, g3, _⟩ := row_write hp.inv hb hr hk hw hse hv h1 h2
  exact ⟨r1, r2, G', .turn hp g1 g2 g3 .undef⟩

/-- what is handed on: how much it is, and its cells -/
theorem src_run {P : Program} {w0 : World} {B : Nat} {G : Gh} {S : St} {w : World} (hi : Inv w0 B G S w) {x : AV} {v : Value} {sz n : Nat} {new : List AV} (hx : VR G x v) (h : srcCells sz x S = some new) (hn : srcLen x = some n) :
    (Builtin.lenOf v).run P w = .ok n w ∧ new.length = n * sz ∧ (∀ y ∈ new, y.isCell = true) ∧ ∃ news, VRL G new news ∧ ∀ k, k ≤ n → (Builtin.firstCells sz k v).run P w = .ok (news.take (k * sz)).toArray w := by
  have hmul : ∀ k, k ≤ n → k * sz ≤ n * sz := fun k hk => Nat.mul_le_mul_right _ hk
  cases x with
  | sl id ver off len lim sz' =>
    simp only [srcLen, Option.some.injEq] at hn
    subst hn
    simp only [srcCells] at h
    split at h
    · rename_i cs hcs
      split at h
      · rename_i hc
        obtain ⟨rfl, hle⟩ := hc
        cases h
        cases hbx : S.H[id]? with
        | none => rw [hbx] at hcs; simp at hcs
        | some bx =>
          rw [hbx] at hcs
          simp only [Option.bind_some] at hcs
          cases hx with
          | sl _ _ _ _ _ _ b m cap q1 q2 q3 q4 =>
            obtain ⟨vs, m1, m2, m3, m4, m5, m6, m7, m8⟩ := hi.rowAt hbx hcs q1
            refine ⟨rfl, by simp; omega, fun y hy => m6 y (List.mem_of_mem_drop (List.mem_of_mem_take hy)), ((vs.toList.take cs.length).drop off).take (len * sz'), (m3.drop off).take _, fun k hk => ?_⟩
            refine run_firstCells_some (P := P) w sz' k ⟨b, off, none⟩ _ _ _ ?_ fun j u hj => ?_
            · have := hmul k hk
              simp; omega
            · have hj' : ((vs.toList.take cs.length).drop off)[j]? = some u := by
                rw [List.take_take] at hj
                rw [List.getElem?_take] at hj
                split at hj
                · exact hj
                · cases hj
              rw [add_none, cell_of_heap m2]
              rw [List.getElem?_drop, List.getElem?_take] at hj'
              split at hj'
              · rw [← Array.getElem?_toList]; exact hj'
              · cases hj'
      · cases h
    · cases h
  | slice es tok =>
    simp only [srcLen, Option.some.injEq] at hn
    subst hn
    simp only [srcCells, elemsOf] at h
    split at h
    · rename_i hs
      cases hx with
      | nils _ ad _ =>
        simp [flatQ] at h
        subst h
        refine ⟨rfl, by simp, by simp, [], .nil, fun k hk => ?_⟩
        have : k = 0 := by simpa using hk
        subst this
        cases ad <;> simp [Builtin.firstCells, run_loadCells_zero]
      | slice _ _ fl b o cap sz' k1 k2 k3 k4 k5 =>
        rw [h] at k2; cases k2
        obtain ⟨vs, v1, v2⟩ := k3.vals
        have hl := flatQ_len' h hs
        have hlv := v1.length
        refine ⟨by simp [Builtin.lenOf], hl, fun y hy => flatQ_isCell h y hy, vs, v1, fun k hk => ?_⟩
        have := hmul k hk
        refine run_firstCells_some (P := P) w sz k ⟨b, o, none⟩ _ _ _ (by simp; omega) fun j u hj => ?_
        rw [add_none]
        refine hi.imm _ _ _ (v2 j u ?_)
        rw [List.getElem?_take] at hj
        split at hj
        · exact hj
        · cases hj
    · cases h
  | str s =>
    simp only [srcLen, Option.some.injEq] at hn
    subst hn
    simp only [srcCells] at h
    split at h
    · rename_i es hes
      split at h
      · rename_i hs
        have himm := hi.imm
        obtain ⟨n1, fl, news, f1, f2, f3, f4⟩ := elems_src (P := P) hx hes hs himm
        rw [h] at f1; cases f1
        have hel : es.length = s.length := by
          obtain ⟨p, _, rfl⟩ := hx.inv_str
          simp only [elemsOf, Option.some.injEq] at hes
          subst hes
          simp
        rw [hel] at f2
        obtain ⟨p, rfl, rfl⟩ := hx.inv_str
        refine ⟨by rw [← hel]; exact n1, f2, fun y hy => flatQ_isCell h y hy, news, f3, fun k hk => ?_⟩
        have hlp : p.data.toList.length = p.size := by rw [Array.length_toList]; rfl
        simp only [elemsOf, Option.some.injEq] at hes
        have hf : ∀ l : List UInt8, flatQ (l.map fun b => AV.int .u8 b.toNat) = some (l.map fun b => AV.int .u8 b.toNat) := fun l => by
          induction l with
          | nil => rfl
          | cons a l ih => simp [flatQ, AV.cells?, ih]
        rw [← hes, hf] at h
        cases h
        have hnews : ∀ (l : List UInt8) (m : List Value), VRL G (l.map fun b => AV.int .u8 b.toNat) m → m = l.map fun b => Value.int .u8 b.toNat := fun l => by
          induction l with
          | nil => intro m hm; cases hm; rfl
          | cons a l ih =>
            intro m hm
            cases hm with
            | cons _ v _ m h1 h2 => cases h1; rw [ih m h2]; rfl
        have hn := hnews _ _ f3
        subst hn
        have hk1 : k * sz = k ∨ p.data.toList = [] := by
          rcases Nat.lt_or_ge 0 p.data.toList.length with hlt | hlt
          · left
            rw [List.length_map] at f2
            have h1 : p.data.toList.length * sz = p.data.toList.length * 1 := by omega
            have := Nat.eq_of_mul_eq_mul_left hlt h1
            rw [this, Nat.mul_one]
          · right; exact List.eq_nil_of_length_eq_zero (by omega)
        simp only [Builtin.firstCells, Sem.run_pure]
        congr 1
        apply Array.ext'
        rcases hk1 with hk1 | hk1
        · rw [hk1]
          simp [ByteArray.data_extract, List.map_take]
        · have hk0 : k = 0 := by rw [hk1] at hk; simpa using hk
          subst hk0
          simp [ByteArray.data_extract]
      · cases h
    · cases h
  | _ => simp [srcLen] at hn
end Go.Proofs.YtcpoinfdnimanaaGreatDoor.AE
/- Appends that write on rows, or make one. No condition. -/
namespace Go.Proofs.YtcpoinfdnimanaaGreatDoor.AE
set_option linter.unusedVariables false
set_option linter.unusedSimpArgs false
open Go Go.RowKit

theorem VRL.ones {G : Gh} {l : List AV} {m : List Value} (h : VRL G l m) (hc : ∀ x ∈ l, x.isCell = true) : ∀ x ∈ m, oneV x = true := fun v hv => by
  obtain ⟨j, hj⟩ := List.mem_iff_getElem?.1 hv
  have hl := h.length
  have hjl := (List.getElem?_eq_some_iff.1 hj).1
  obtain ⟨u, hu1, hu2⟩ := h.get (List.getElem?_eq_getElem (show j < l.length by omega))
  rw [hj] at hu1; cases hu1
  exact hu2.one (hc _ (List.getElem_mem _))
theorem zeroCells_one {z : Array Value} (h : ∀ x ∈ z.toList, oneV x = true) (n : Nat) : ∀ x ∈ (Builtin.zeroCells z n).toList, oneV x = true := fun x hx => by
  simp only [Builtin.zeroCells, Array.toList_map, List.mem_map, Array.toList_range, List.mem_range] at hx
  obtain ⟨i, hi, rfl⟩ := hx
  have hz : 0 < z.size := Nat.pos_of_ne_zero fun e => by rw [e] at hi; simp at hi
  have hlt := Nat.mod_lt i hz
  rw [getElem!_pos z (i % z.size) hlt]
  exact h _ (by simp)
theorem grown_size {w : World} {e : TypeId} {sz need old a b : Nat} {z : Array Value} (hz : z.size = sz) {x y : Array Value} (hx : x.size = a * sz) (hy : y.size = b * sz) (hn : need = a + b) :
    (x ++ y ++ Builtin.zeroCells z (grownCap w need old e - need)).size = grownCap w need old e * sz := by
  have hge := grownCap_ge w need old e
  have e1 : grownCap w need old e = a + b + (grownCap w need old e - need) := by omega
  have e2 := congrArg (· * sz) e1
  simp only [Nat.add_mul] at e2
  rw [e2]
  simp only [Array.size_append, size_zeroCells, hx, hy, hz]

theorem take_app2 {x y z : List Value} {n : Nat} (h : n = x.length + y.length) : (x ++ (y ++ z)).take n = x ++ y := by
  subst h
  rw [← List.append_assoc, List.take_left' (by simp)]

/-- a new row of what was and what comes behind -/
theorem rowNew_run {F : Fix} {fs : FS} {G : Gh} {w : World} {i : Nat} {e : TypeId} (hp : Pre F fs G w) (he : rowT + e < mapT) {old new : List AV} {olds news : List Value} {zs : Array Value}
    (h1 : VRL G old olds) (h2 : VRL G new news) (c1 : ∀ x ∈ old, x.isCell = true) (c2 : ∀ x ∈ new, x.isCell = true) (s1 : AV.sealedL old = true) (s2 : AV.sealedL new = true) (hz : ∀ x ∈ zs.toList, oneV x = true)
    {n sz cap : Nat} (hcap : n ≤ cap) (hs : (olds.toArray ++ news.toArray ++ zs).size = cap * sz) :
    ∃ G', Post F fs.c i G fs.b { fs.S with H := fs.S.H ++ [⟨rowT + e, .int .i64 0 :: (old ++ new)⟩] } (.sl fs.S.H.length 0 0 n n sz) G' (w.drew.alloc (.cells (olds.toArray ++ news.toArray ++ zs) e)) (.slice (some ⟨w.heap.size, 0, none⟩) n cap) := by
  have l1 := h1.length
  have l2 := h2.length
  have hl : (olds.toArray ++ news.toArray ++ zs).toList = olds ++ (news ++ zs.toList) := by simp
  obtain ⟨G', g1, g2, g3, g4⟩ := hp.inv.drew.rowNew (e := e) (cs := old ++ new) (vs := olds.toArray ++ news.toArray ++ zs) he
    (by rw [hl, take_app2 (by simp; omega)]; exact h1.append h2) (by simp; omega)
    (fun x hx => by
      rw [hl] at hx
      simp only [List.mem_append] at hx
      rcases hx with hx | hx | hx
      · exact h1.ones c1 x hx
      · exact h2.ones c2 x hx
      · exact hz x hx)
    (fun x hx => (List.mem_append.1 hx).elim (c1 x) (c2 x)) (sealedL_mem.2 fun x hx => (List.mem_append.1 hx).elim (sealedL_mem.1 s1 x) (sealedL_mem.1 s2 x))
  have hp' := hp.drew
  refine ⟨G', .turn hp' g1 g2 g3 (.sl _ _ _ _ _ _ _ _ _ g4 (Nat.le_refl _) hcap ?_)⟩
  rw [hs, Nat.zero_add]
  exact Nat.le_refl _

theorem evAppendM_run {F : Fix} {P : Program} {fs : FS} {G : Gh} {w : World} {i : Nat} {ts : Array TypeId} {rt : TypeId} {s x r : AV} {sv xv : Value} {S' : St} {fp : FP} (hp : Pre F fs G w) (hs : VR G s sv) (hx : VR G x xv)
    (h : evAppendM P ts.toList s x fs.S = some (r, S', fp)) :
    ∃ G' w' v, (Builtin.append_ ts rt #[sv, xv]).run P w = .ok v w' ∧ Post F fs.c i G fs.b S' r G' w' v := by
  unfold evAppendM at h
  split at h
  · rename_i ty tx tl hts
    have h0 : ts[0]? = some ty := by rw [← Array.getElem?_toList, hts]; rfl
    have h1 : ts[1]? = some tx := by rw [← Array.getElem?_toList, hts]; rfl
    split at h
    · rename_i e he hu
      have ht := sliceQ_spec he
      obtain ⟨dx, hdx, hni⟩ : ∃ dx, P.underlying tx = some dx ∧ ∀ k, dx ≠ .int k := by
        split at hu
        · cases hu
        · cases hu
        · rename_i d hne hd
          exact ⟨d, hd, fun k hk => hne k hk⟩
      split at h
      · rename_i z new n hz hsrc hn
        obtain ⟨ii, zv, z1, z2, z3, z4, z5, z6, z7, z8⟩ := zero_cells hz G
        obtain ⟨n1, n2, n3, news, n4, n5⟩ := src_run (P := P) hp.inv hx hsrc hn
        obtain ⟨_, _, _, news', n4', n5'⟩ := src_run (P := P) hp.inv.drew hx hsrc hn
        have hnl := n4.length
        have hnl' := n4'.length
        have hb1 : ii.bytes = P.bytesOf e := by simp [Program.bytesOf, z1]
        have hfull : (Builtin.firstCells ii.size n xv).run P w = .ok news.toArray w := by
          rw [← z5, n5 n (Nat.le_refl _), List.take_of_length_le (by omega)]
        have hfull' : (Builtin.firstCells ii.size n xv).run P w.drew = .ok news'.toArray w.drew := by
          rw [← z5, n5' n (Nat.le_refl _), List.take_of_length_le (by omega)]
        split at h
        · rename_i hc
          obtain ⟨c1, c2, c3, c4⟩ := hc
          have hszp : 0 < P.cellsOf e := by omega
          split at h
          · -- a row
            rename_i id ver off len lim sz
            split at h
            · rename_i hd
              obtain ⟨rfl, d2, d3⟩ := hd
              cases hs with
              | sl _ _ _ _ _ _ b m cap q1 q2 q3 q4 =>
                split at h
                · rename_i hn0
                  subst hn0
                  cases h
                  have hempty : news = [] := List.eq_nil_of_length_eq_zero (by omega)
                  rw [hempty] at hfull
                  exact ⟨G, w, _, run_append_same' ty tx e rt ii ts h0 h1 ht hdx hni z1 _ len cap xv n1 hfull (by omega), Post.same hp (.sl _ _ _ _ _ _ _ _ _ q1 q2 q3 q4)⟩
                · rename_i hn0
                  split at h
                  · rename_i bx hbx
                    split at h
                    · rename_i old hold
                      obtain ⟨vs, m1, m2, m3, m4, m5, m6, m7, m8⟩ := hp.inv.rowAt hbx hold q1
                      split at h
                      · rename_i hlim
                        split at h
                        · rename_i cs hw
                          cases h
                          obtain ⟨r1, r2, G', g1, g2, g3, g4⟩ := row_write hp.inv hbx hold q1 hw c4 n4 (n4.ones n3) n3
                          have hrun := run_append_room' (P := P) (w := w) ty tx e rt ii ts h0 h1 ht hdx hni z1 b off len cap n xv news n1 hfull (by omega) (n4.ones n3) (by rw [← z5]; exact r1) (by rw [← z5]; exact r2)
                          rw [← z5] at hrun
                          exact ⟨G', _, _, hrun, .turn hp g1 g2 g3 (.sl _ _ _ _ _ _ _ _ _ g4 hlim q3 q4)⟩
                        · cases h
                      · rename_i hlim
                        split at h
                        · rename_i hoff
                          obtain ⟨rfl, hle, hbt⟩ := hoff
                          cases h
                          have hkeep : VRL G (old.take (len * P.cellsOf e)) (vs.toList.take (len * P.cellsOf e)) := by
                            have := m3.take (len * P.cellsOf e)
                            rwa [List.take_take, show min (len * P.cellsOf e) old.length = len * P.cellsOf e by omega] at this
                          have hcl : (old.take (len * P.cellsOf e) ++ new).length = len * P.cellsOf e + n * P.cellsOf e := by simp; omega
                          have hcells : ∀ y ∈ old.take (len * P.cellsOf e) ++ new, y.isCell = true := fun y hy => (List.mem_append.1 hy).elim (fun hy => m6 y (List.mem_of_mem_take hy)) (n3 y)
                          have hseal : AV.sealedL (old.take (len * P.cellsOf e) ++ new) = true := sealedL_mem.2 fun y hy => (List.mem_append.1 hy).elim (fun hy => sealedL_mem.1 m7 y (List.mem_of_mem_take hy)) (sealedL_mem.1 c4 y)
                          have hB : F.B ≤ b := (hp.inv.ex.rvb id ver _ q1).1
                          by_cases hroom : len + n ≤ cap
                          · have hmul : (len + n) * P.cellsOf e ≤ cap * P.cellsOf e := Nat.mul_le_mul_right _ hroom
                            rw [Nat.add_mul] at hmul
                            have hfit : len * P.cellsOf e + news.length ≤ vs.size := by omega
                            have hput := putL_toList news (len * P.cellsOf e) vs hfit
                            obtain ⟨G', g1, g2, g3, g4⟩ := hp.inv.rowTurn (ver' := ver + 1) (b2 := b) (cs := old.take (len * P.cellsOf e) ++ new) (vs' := putL (len * P.cellsOf e) news vs) (w' := setL b (len * P.cellsOf e) news w) hbx hold q1
                              (.inr ⟨rfl, .inl ⟨rfl, by rw [putL_size, m1]⟩⟩) (setL_heap_same news _ w vs _ _ m2) (fun k _ hkb => setL_heap_other news _ w k hkb) (by rw [setL_size]; exact Nat.le_refl _) (setL_below hB news _ w hp.inv.below)
                              (by rw [hcl, hput, take_app2 (by simp; omega)]; exact hkeep.append n4) (by rw [hcl, putL_size]; omega) (putL_one hfit (n4.ones n3) m5) hcells hseal
                            have hrun := run_append_room' (P := P) (w := w) ty tx e rt ii ts h0 h1 ht hdx hni z1 b 0 len cap n xv news n1 hfull hroom (n4.ones n3)
                              (fun j hj => by rw [cell_of_heap m2, ← z5]; simp; omega) (fun j _ => frozen_of_heap m2)
                            rw [← z5, Nat.zero_add] at hrun
                            refine ⟨G', _, _, hrun, .turn hp g1 g2 g3 (.sl _ _ _ _ _ _ _ _ _ g4 (Nat.le_refl _) hroom ?_)⟩
                            rw [putL_size, ← m1]
                            exact q4
                          · have hcn : len + n ≤ 70368744177664 := Nat.le_trans (Nat.le_mul_of_pos_right _ hszp) d3
                            have holdl : (vs.toList.take (len * P.cellsOf e)).length = len * P.cellsOf e := by simp; omega
                            have hfo : (Builtin.firstCells ii.size len (.slice (some ⟨b, 0, none⟩) len cap)).run P w.drew = .ok (vs.toList.take (len * P.cellsOf e)).toArray w.drew :=
                              run_firstCells_some (P := P) w.drew ii.size len ⟨b, 0, none⟩ len cap _ (by rw [holdl, z5]) fun j u hj => by
                                rw [add_none, cell_of_heap (w := w.drew) m2, Nat.zero_add]
                                rw [List.getElem?_take] at hj
                                split at hj
                                · rw [← Array.getElem?_toList]; exact hj
                                · cases hj
                            have hrun := run_append_grow' (P := P) (w := w) ty tx e rt ii zv ts h0 h1 ht hdx hni z1 z2 (some ⟨b, 0, none⟩) len cap n xv _ news' n1 hfull' hfo (by omega) (by omega) (growslice_fits (by omega) (by rw [hb1]; omega))
                            have hsz := grown_size (w := w) (e := e) (sz := P.cellsOf e) (need := len + n) (old := cap) (a := len) (b := n) (z := zv.cells) (by rw [z3, z5]) (x := (vs.toList.take (len * P.cellsOf e)).toArray) (y := news'.toArray) (by rw [List.size_toArray, holdl]) (by rw [List.size_toArray]; omega) rfl
                            have htl : ((vs.toList.take (len * P.cellsOf e)).toArray ++ news'.toArray ++ Builtin.zeroCells zv.cells (grownCap w (len + n) cap e - (len + n))).toList = vs.toList.take (len * P.cellsOf e) ++ (news' ++ (Builtin.zeroCells zv.cells (grownCap w (len + n) cap e - (len + n))).toList) := by simp
                            have hge := grownCap_ge w (len + n) cap e
                            have hgm : (len + n) * P.cellsOf e ≤ grownCap w (len + n) cap e * P.cellsOf e := Nat.mul_le_mul_right _ hge
                            rw [Nat.add_mul] at hgm
                            have hty : bx.ty - rowT = e := by
                              rw [hbt]; exact Nat.add_sub_cancel_left _ _
                            obtain ⟨G', g1, g2, g3, g4⟩ := hp.inv.drew.rowTurn (ver' := ver + 1) (b2 := w.drew.heap.size) (cs := old.take (len * P.cellsOf e) ++ new) (vs' := (vs.toList.take (len * P.cellsOf e)).toArray ++ news'.toArray ++ Builtin.zeroCells zv.cells (grownCap w (len + n) cap e - (len + n)))
                              (w' := w.drew.alloc (.cells ((vs.toList.take (len * P.cellsOf e)).toArray ++ news'.toArray ++ Builtin.zeroCells zv.cells (grownCap w (len + n) cap e - (len + n))) e)) hbx hold q1
                              (.inr ⟨rfl, .inr (Nat.le_refl _)⟩) (by rw [heap_alloc_at, hty]) (fun k hk _ => heap_alloc_lt _ _ hk) (by simp) (hp.inv.drew.below.alloc hp.inv.drew.base _)
                              (by rw [hcl, htl, take_app2 (by rw [holdl]; omega)]; exact hkeep.append n4') (by rw [hcl, hsz]; exact hgm)
                              (fun y hy => by
                                rw [htl] at hy
                                simp only [List.mem_append] at hy
                                rcases hy with hy | hy | hy
                                · exact m5 y (List.mem_of_mem_take hy)
                                · exact n4'.ones n3 y hy
                                · exact zeroCells_one z7 _ y hy) hcells hseal
                            have hp' := hp.drew
                            refine ⟨G', _, _, hrun, .turn hp' g1 g2 g3 (.sl _ _ _ _ _ _ _ _ _ g4 (Nat.le_refl _) hge ?_)⟩
                            rw [hsz, Nat.zero_add]
                            exact Nat.le_refl _
                        · cases h
                    · cases h
                  · cases h
            · cases h
          · -- a new row
            rename_i es
            split at h
            · rename_i hd
              obtain ⟨d1, d2, d3, d4⟩ := hd
              have hcn : es.length + n ≤ 70368744177664 := Nat.le_trans (Nat.le_mul_of_pos_right _ hszp) d3
              split at h
              · rename_i hn0
                subst hn0
                cases h
                have hempty : news = [] := List.eq_nil_of_length_eq_zero (by omega)
                rw [hempty] at hfull
                obtain ⟨ad, cap, rfl, hcap⟩ : ∃ ad cap, sv = .slice ad es.length cap ∧ es.length ≤ cap := by
                  cases hs with
                  | nils _ ad _ => exact ⟨ad, 0, rfl, Nat.le_refl _⟩
                  | slice _ _ fl b o cap sz k1 k2 k3 k4 k5 => exact ⟨_, cap, rfl, k1⟩
                exact ⟨G, w, _, run_append_same' ty tx e rt ii ts h0 h1 ht hdx hni z1 ad es.length cap xv n1 hfull hcap, Post.same hp hs⟩
              · rename_i hn0
                split at h
                · rename_i old hold
                  split at h
                  · rename_i hso
                    cases h
                    have himm := hp.inv.imm
                    obtain ⟨ad, olds, rfl, g2, g3, g4⟩ : ∃ ad olds, sv = .slice ad es.length es.length ∧ old.length = es.length * P.cellsOf e ∧ VRL G old olds ∧
                        (Builtin.firstCells ii.size es.length (.slice ad es.length es.length)).run P w.drew = .ok olds.toArray w.drew := by
                      cases hs with
                      | nils _ ad _ =>
                        simp [flatQ] at hold
                        subst hold
                        exact ⟨ad, [], rfl, by simp, .nil, by cases ad <;> simp [Builtin.firstCells, run_loadCells_zero]⟩
                      | slice _ _ fl b o cap sz k1 k2 k3 k4 k5 =>
                        simp only [TokR] at k4
                        subst k4
                        rw [hold] at k2; cases k2
                        obtain ⟨vs, v1, v2⟩ := k3.vals
                        have hl := flatQ_len' hold d1
                        have hlv := v1.length
                        exact ⟨_, vs, rfl, hl, v1, run_firstCells_some (P := P) w.drew ii.size es.length ⟨b, o, none⟩ _ _ vs (by rw [hlv, hl, z5]) fun j u hj => by rw [add_none]; exact himm _ _ _ (v2 j u hj)⟩
                    have hol := g3.length
                    have hrun := run_append_grow' (P := P) (w := w) ty tx e rt ii zv ts h0 h1 ht hdx hni z1 z2 ad es.length es.length n xv olds news' n1 hfull' g4 (by omega) (by omega) (growslice_fits (by omega) (by rw [hb1]; omega))
                    have hsz := grown_size (w := w) (e := e) (sz := P.cellsOf e) (need := es.length + n) (old := es.length) (a := es.length) (b := n) (z := zv.cells) (by rw [z3, z5]) (x := olds.toArray) (y := news'.toArray) (by rw [List.size_toArray]; omega) (by rw [List.size_toArray]; omega) rfl
                    obtain ⟨G', hpost⟩ := rowNew_run (i := i) (e := e) hp (Nat.add_lt_add_left (k := rowT) d4) g3 n4' (fun y hy => flatQ_isCell hold y hy) n3 hso c4 (zeroCells_one z7 _) (grownCap_ge w (es.length + n) es.length e) hsz
                    exact ⟨G', _, _, hrun, hpost⟩
                  · cases h
                · cases h
            · cases h
          · cases h
        · cases h
      · cases h
    · cases h
  · cases h
end Go.Proofs.YtcpoinfdnimanaaGreatDoor.AE
/- Copies, what is cleared, and maps. No condition. -/
namespace Go.Proofs.YtcpoinfdnimanaaGreatDoor.AE
set_option linter.unusedVariables false
set_option linter.unusedSimpArgs false
open Go Go.RowKit

theorem run_storeCells_set (P : Program) (b o : Nat) (vs : List Value) (w : World) (h1 : ∀ x ∈ vs, oneV x = true) (r1 : ∀ j, j < vs.length → (w.cell? ⟨b, o + j, none⟩).isSome = true) (r2 : ∀ j, j < vs.length → w.frozen? ⟨b, o + j, none⟩ = false) :
    (storeCells ⟨b, o, none⟩ vs).run P w = .ok () (setL b o vs w) := by
  have := run_storeCells_at P b o vs 0 w h1 (by simpa using r1) (by simpa using r2)
  simpa using this

theorem evCopyM_run {F : Fix} {P : Program} {fs : FS} {G : Gh} {w : World} {i : Nat} {ts : Array TypeId} {rt : TypeId} {d x r : AV} {dv xv : Value} {S' : St} (hp : Pre F fs G w) (hd : VR G d dv) (hx : VR G x xv)
    (h : evCopyM P ts.toList d x fs.S = some (r, S')) :
    ∃ G' w' v, (Builtin.copy_ ts rt #[dv, xv]).run P w = .ok v w' ∧ Post F fs.c i G fs.b S' r G' w' v := by
  unfold evCopyM at h
  split at h
  · rename_i ty tl hts
    have h0 : ts[0]? = some ty := by rw [← Array.getElem?_toList, hts]; rfl
    split at h
    · rename_i e he
      have ht := sliceQ_spec he
      split at h
      · rename_i id ver off len lim sz new n hsrc hn
        obtain ⟨n1, n2, n3, news, n4, n5⟩ := src_run (P := P) hp.inv hx hsrc hn
        split at h
        · rename_i hc
          obtain ⟨rfl, c2, c3⟩ := hc
          obtain ⟨ii, hii⟩ := Option.isSome_iff_exists.1 c2
          split at h
          · rename_i bx hbx
            split at h
            · rename_i old hold
              split at h
              · rename_i cs hw
                cases h
                cases hd with
                | sl _ _ _ _ _ _ b m cap q1 q2 q3 q4 =>
                  have t1 : VRL G (new.take (min n len * P.cellsOf e)) (news.take (min n len * P.cellsOf e)) := n4.take _
                  have t3 : ∀ y ∈ new.take (min n len * P.cellsOf e), y.isCell = true := fun y hy => n3 y (List.mem_of_mem_take hy)
                  obtain ⟨r1, r2, G', g1, g2, g3, g4⟩ := row_write hp.inv hbx hold q1 hw (sealedL_mem.2 fun y hy => sealedL_mem.1 c3 y (List.mem_of_mem_take hy)) t1 (t1.ones t3) t3
                  refine ⟨G', _, .int .i64 ((min n len : Nat) : Int), ?_, .turn hp g1 g2 g3 (.int _ _)⟩
                  have hst := run_storeCells_set P b off _ w (t1.ones t3) r1 r2
                  have hfc := n5 (min n len) (Nat.min_le_left _ _)
                  unfold Builtin.copy_
                  simp only [h0, List.getElem?_toArray, List.getElem?_cons_zero, List.getElem?_cons_succ, Sem.run_bind, run_underlying' P w ty _ ht, Result.andThen_ok, n1, run_sizeOf' P w e ii hii, show Nat.min n len = min n len from rfl, hfc, hst, Sem.run_pure, goInt]
              · cases h
            · cases h
          · cases h
        · cases h
      · cases h
    · cases h
  · cases h

theorem zeros_VRL {G : Gh} {z : List AV} {zs : Array Value} (h : VRL G z zs.toList) : ∀ n, VRL G (zerosA z n) (Builtin.zeroCells zs n).toList
  | 0 => by simp [zerosA, Builtin.zeroCells]; exact .nil
  | n + 1 => by
    have ih := zeros_VRL h n
    have e : (Builtin.zeroCells zs (n + 1)).toList = zs.toList ++ (Builtin.zeroCells zs n).toList := by
      simp only [Builtin.zeroCells, Array.toList_map, Array.toList_range]
      rw [show (n + 1) * zs.size = zs.size + n * zs.size by rw [Nat.add_mul]; omega, List.range_add, List.map_append, List.map_map]
      congr 1
      · apply List.ext_getElem
        · simp
        · intro i h1 h2
          simp at h1
          simp [Nat.mod_eq_of_lt h1, getElem!_pos zs i h1]
      · apply List.map_congr_left
        intro i _
        simp [Nat.add_mod_left]
    rw [e]
    exact h.append ih
theorem zerosA_mem {z : List AV} {x : AV} : ∀ n, x ∈ zerosA z n → x ∈ z
  | 0, h => by simp [zerosA] at h
  | n + 1, h => by
    simp only [zerosA, List.mem_append] at h
    exact h.elim id (zerosA_mem n)

theorem evClearM_run {F : Fix} {P : Program} {fs : FS} {G : Gh} {w : World} {i : Nat} {ts : Array TypeId} {rt : TypeId} {d r : AV} {dv : Value} {S' : St} (hp : Pre F fs G w) (hd : VR G d dv)
    (h : evClearM P ts.toList d fs.S = some (r, S')) :
    ∃ G' w' v, (Builtin.clear_ ts rt #[dv]).run P w = .ok v w' ∧ Post F fs.c i G fs.b S' r G' w' v := by
  unfold evClearM at h
  split at h
  · rename_i ty tl hts
    have h0 : ts[0]? = some ty := by rw [← Array.getElem?_toList, hts]; rfl
    split at h
    · rename_i e he
      have ht := sliceQ_spec he
      split at h
      · rename_i z id ver off len lim sz hz
        obtain ⟨ii, zv, z1, z2, z3, z4, z5, z6, z7, z8⟩ := zero_cells hz G
        split at h
        · rename_i hc
          obtain ⟨rfl, c2, c3⟩ := hc
          split at h
          · rename_i bx hbx
            split at h
            · rename_i old hold
              split at h
              · rename_i cs hw
                cases h
                cases hd with
                | sl _ _ _ _ _ _ b m cap q1 q2 q3 q4 =>
                  have t1 := zeros_VRL z6 len
                  have t3 : ∀ y ∈ zerosA z len, y.isCell = true := fun y hy => z8 y (zerosA_mem _ hy)
                  obtain ⟨r1, r2, G', g1, g2, g3, g4⟩ := row_write hp.inv hbx hold q1 hw (sealedL_mem.2 fun y hy => sealedL_mem.1 c3 y (zerosA_mem _ hy)) t1 (t1.ones t3) t3
                  refine ⟨G', _, .tuple #[], ?_, .turn hp g1 g2 g3 (.tup _ _ .nil)⟩
                  have hst := run_storeCells_set P b off _ w (t1.ones t3) r1 r2
                  unfold Builtin.clear_
                  cases len with
                  | zero => simp [h0, run_underlying' P w ty _ ht, Builtin.zeroCells, setL]
                  | succ k => simp [h0, run_underlying' P w ty _ ht, zeroValue, typeInfo, z1, z2, hst]
              · cases h
            · cases h
          · cases h
        · cases h
      · rename_i z tok hz
        cases h
        cases hd with
        | nils _ ad _ =>
          refine ⟨G, w, .tuple #[], ?_, Post.same hp (.tup _ _ .nil)⟩
          unfold Builtin.clear_
          cases ad <;> simp [h0, run_underlying' P w ty _ ht]
        | slice _ _ fl b o cap sz k1 k2 k3 k4 k5 =>
          refine ⟨G, w, .tuple #[], ?_, Post.same hp (.tup _ _ .nil)⟩
          unfold Builtin.clear_
          simp [h0, run_underlying' P w ty _ ht]
      · cases h
    · cases h
  · cases h

/-! ### maps -/
theorem arr_of_list' {α : Type} {x : Array α} {l : List α} (h : x.toList = l) : x = l.toArray := by cases x; simp at h; rw [h]
theorem VRL.two {G : Gh} {x y : AV} {l : List Value} (h : VRL G [x, y] l) : ∃ a b, l = [a, b] ∧ VR G x a ∧ VR G y b := by
  cases h with | cons _ a _ m h1 h2 => cases h2 with | cons _ b _ m h3 h4 => cases h4; exact ⟨a, b, rfl, h1, h3⟩
/-- a key, as it stands in a map -/
def IsK : KeyK → Value → Prop
  | .int k, v => ∃ n, v = .int k n
  | .str, v => ∃ b, v = .string b
  | .two, v => ∃ a b, v = .agg #[.string a, .string b]
theorem keyIs_IsK {G : Gh} {kk : KeyK} {k : AV} {v : Value} (h : keyIs kk k = true) (hv : VR G k v) : IsK kk v := by
  unfold keyIs at h
  split at h
  · simp at h; subst h; cases hv; exact ⟨_, rfl⟩
  · cases hv; exact ⟨_, rfl⟩
  · cases hv with
    | agg _ vs hl =>
      obtain ⟨a, b, e, h1, h2⟩ := hl.two
      obtain ⟨p, rfl, _⟩ := h1.inv_str
      obtain ⟨q, rfl, _⟩ := h2.inv_str
      exact ⟨p, q, by rw [arr_of_list' e]⟩
  · cases h
theorem bytes_ext {a b : ByteArray} (h : a.data.toList = b.data.toList) : a = b := by
  cases a; cases b
  congr 1
  exact Array.ext' h
theorem keyEq_iff {G : Gh} {kk : KeyK} {k k' : AV} {v v' : Value} (h : keyIs kk k = true) (h' : keyIs kk k' = true) (hv : VR G k v) (hv' : VR G k' v') : keyEq k k' = true ↔ v' = v := by
  unfold keyIs at h
  split at h
  · rename_i q q' n
    simp at h; subst h
    cases hv
    cases k' <;> simp [keyIs] at h'
    subst h'
    cases hv'
    simp [keyEq]
    exact eq_comm
  · rename_i s
    cases k' <;> simp [keyIs] at h'
    obtain ⟨p, rfl, rfl⟩ := hv.inv_str
    obtain ⟨q, rfl, rfl⟩ := hv'.inv_str
    simp only [keyEq, beq_iff_eq, Value.string.injEq]
    exact ⟨fun e => (bytes_ext e).symm, fun e => by rw [e]⟩
  · rename_i s1 s2
    unfold keyIs at h'
    split at h'
    · contradiction
    · contradiction
    · rename_i u1 u2 _
      cases hv with
      | agg _ vs hl =>
        cases hv' with
        | agg _ vs' hl' =>
          obtain ⟨a, b, e, h1, h2⟩ := hl.two
          obtain ⟨a', b', e', h1', h2'⟩ := hl'.two
          obtain ⟨p, rfl, rfl⟩ := h1.inv_str
          obtain ⟨q, rfl, rfl⟩ := h2.inv_str
          obtain ⟨p', rfl, rfl⟩ := h1'.inv_str
          obtain ⟨q', rfl, rfl⟩ := h2'.inv_str
          rw [arr_of_list' e, arr_of_list' e']
          simp only [keyEq, Bool.and_eq_true, beq_iff_eq]
          constructor
          · rintro ⟨e1, e2⟩
            rw [bytes_ext e1, bytes_ext e2]
          · intro e3
            simp at e3
            rw [e3.1, e3.2]; exact ⟨rfl, rfl⟩
    · cases h'
  · cases h

/-- an entry is found, or is not there -/
theorem ent_find {G : Gh} {kk : KeyK} {k : AV} {kv : Value} (hk : keyIs kk k = true) (hv : VR G k kv) {l : List AV} {es : List MapEntry} (h : EntR G l es) (hall : allK kk l = true) :
    (∀ e ∈ es, IsK kk e.key) ∧
    ((∃ v e j, findM k l = some v ∧ es[j]? = some e ∧ e.key = kv ∧ (∀ j' e', j' < j → es[j']? = some e' → e'.key ≠ kv) ∧ VR G v e.val ∧
      (∀ nv nvv, VR G nv nvv → k.sealed = true → (∃ cs, nv.cells? = some cs ∧ AV.sealedL cs = true) → EntR G (putM k nv l) (es.modify j fun e => { e with key := kv, val := nvv }))) ∨
    (findM k l = none ∧ (∀ e ∈ es, e.key ≠ kv) ∧
      (∀ nv nvv born, VR G nv nvv → k.sealed = true → (∃ cs, nv.cells? = some cs ∧ AV.sealedL cs = true) → EntR G (putM k nv l) (es ++ [{ key := kv, val := nvv, born := born }])))) := by
  induction h with
  | nil =>
    refine ⟨by simp, .inr ⟨rfl, by simp, fun nv nvv born h1 h2 h3 => ?_⟩⟩
    exact .cons k nv ⟨kv, nvv, born⟩ [] [] hv h1 h2 h3 .nil
  | cons k0 v0 e0 l es h1 h2 h3 h4 hr ih =>
    simp only [allK, Bool.and_eq_true] at hall
    obtain ⟨ha, hb⟩ := hall
    have hi := keyEq_iff hk ha hv h1
    obtain ⟨ih1, ih2⟩ := ih hb
    refine ⟨fun e he => ?_, ?_⟩
    · rcases List.mem_cons.1 he with rfl | he
      · exact keyIs_IsK ha h1
      · exact ih1 e he
    · by_cases hq : keyEq k k0 = true
      · refine .inl ⟨v0, e0, 0, by simp [findM, hq], rfl, hi.1 hq, fun j' e' hj => by omega, h2, fun nv nvv g1 g2 g3 => ?_⟩
        simp only [putM, hq, if_true, List.modify_zero_cons]
        exact .cons k nv _ l es hv g1 g2 g3 hr
      · have hne : e0.key ≠ kv := fun e => hq (hi.2 e)
        rcases ih2 with ⟨v, e, j, a1, a2, a3, a4, a5, a6⟩ | ⟨a1, a2, a3⟩
        · refine .inl ⟨v, e, j + 1, by simp [findM, hq, a1], by simpa using a2, a3, fun j' e' hj he' => ?_, a5, fun nv nvv g1 g2 g3 => ?_⟩
          · cases j' with
            | zero => simp at he'; subst he'; exact hne
            | succ j' => exact a4 j' e' (by omega) (by simpa using he')
          · simp only [putM, hq, Bool.false_eq_true, if_false, List.modify_succ_cons]
            exact .cons k0 v0 e0 _ _ h1 h2 h3 h4 (a6 nv nvv g1 g2 g3)
        · refine .inr ⟨by simp [findM, hq, a1], fun e he => ?_, fun nv nvv born g1 g2 g3 => ?_⟩
          · rcases List.mem_cons.1 he with rfl | he
            · exact hne
            · exact a2 e he
          · simp only [putM, hq, Bool.false_eq_true, if_false, List.cons_append]
            exact .cons k0 v0 e0 _ _ h1 h2 h3 h4 (a3 nv nvv born g1 g2 g3)

theorem keyK_int {P : Program} {t : TypeId} {q : IntKind} (h : keyK P t = some (.int q)) : P.underlying t = some (.int q) := by
  unfold keyK at h
  split at h
  · rename_i hu; cases h; exact hu
  · cases h
  · split at h
    · split at h <;> cases h
    · cases h
  · cases h
theorem keyK_str {P : Program} {t : TypeId} (h : keyK P t = some .str) : P.underlying t = some .string := by
  unfold keyK at h
  split at h
  · cases h
  · rename_i hu; exact hu
  · split at h
    · split at h <;> cases h
    · cases h
  · cases h
theorem keyK_two {P : Program} {t : TypeId} (h : keyK P t = some .two) : ∃ f g : Field, P.underlying t = some (.struct #[f, g]) ∧ P.underlying f.type = some .string ∧ P.underlying g.type = some .string ∧ f.offset = 0 ∧ g.offset = 1 ∧ f.name ≠ "_" ∧ g.name ≠ "_" ∧ P.stoodInHeld t = false := by
  unfold keyK at h
  split at h
  · cases h
  · cases h
  · rename_i fs hu
    split at h
    · rename_i f g hfs
      split at h
      · rename_i hc
        obtain ⟨c1, c2, c3, c4, _, _, c5, c6, c7⟩ := hc
        exact ⟨f, g, by rw [hu, arr_of_list' hfs], strQ_spec c1, strQ_spec c2, c3, c4, c5, c6, c7⟩
      · cases h
    · cases h
  · cases h

theorem run_part_string {P : Program} {w : World} {t : TypeId} (ht : P.underlying t = some .string) {cs : Array Value} {o : Nat} {v : Value} (h : cs[o]? = some v) : (part t cs o).run P w = .ok v w := by
  unfold part
  simp [isAgg, run_underlying' P w t _ ht, h]
theorem run_checkK {P : Program} {w : World} {t : TypeId} {kk : KeyK} (ht : keyK P t = some kk) {v : Value} (hv : IsK kk v) (em : Bool) (n : Nat) : (Instr.checkKey em (n + 2) t v).run P w = .ok () w := by
  cases kk with
  | int q =>
    obtain ⟨a, rfl⟩ := hv
    simp [Instr.checkKey, run_underlying' P w t _ (keyK_int ht)]
  | str =>
    obtain ⟨a, rfl⟩ := hv
    simp [Instr.checkKey, run_underlying' P w t _ (keyK_str ht)]
  | two =>
    obtain ⟨a, b, rfl⟩ := hv
    obtain ⟨f, g, h1, h2, h3, h4, h5, h6, h7, h8⟩ := keyK_two ht
    have p1 := run_part_string (w := w) h2 (cs := #[.string a, .string b]) (o := f.offset) (v := .string a) (by rw [h4]; rfl)
    have p2 := run_part_string (w := w) h3 (cs := #[.string a, .string b]) (o := g.offset) (v := .string b) (by rw [h5]; rfl)
    unfold Instr.checkKey
    simp [run_underlying' P w t _ h1, h6, h7, p1, p2, Instr.checkKey, run_underlying' P w f.type _ h2, run_underlying' P w g.type _ h3]
theorem run_eqTwo {P : Program} {w : World} {t : TypeId} (ht : keyK P t = some .two) (a b c d : ByteArray) : (Op.equal t (.agg #[.string a, .string b]) (.agg #[.string c, .string d])).run P w = .ok (a == c && b == d) w := by
  obtain ⟨f, g, h1, h2, h3, h4, h5, h6, h7, h8⟩ := keyK_two ht
  have hf : P.fieldsOf t = #[f, g] := by simp [Program.fieldsOf, h1]
  have p : ∀ x y : ByteArray, (part f.type #[.string x, .string y] f.offset).run P w = .ok (.string x) w := fun x y => run_part_string h2 (by rw [h4]; rfl)
  have q : ∀ x y : ByteArray, (part g.type #[.string x, .string y] g.offset).run P w = .ok (.string y) w := fun x y => run_part_string h3 (by rw [h5]; rfl)
  have e1 : ∀ (n : Nat) x y, (Op.equalIn (n + 1) f.type (.string x) (.string y)).run P w = .ok (x == y) w := fun n x y => by simp [Op.equalIn, run_underlying' P w f.type _ h2]
  have e2 : ∀ (n : Nat) x y, (Op.equalIn (n + 1) g.type (.string x) (.string y)).run P w = .ok (x == y) w := fun n x y => by simp [Op.equalIn, run_underlying' P w g.type _ h3]
  show (Op.equalIn (9999 + 1) t _ _).run P w = _
  rw [run_equalIn_struct w 9999 t _ _ (by rw [hf]; exact h1) h8, hf]
  simp only [Op.eqFields, h6, h7, ne_eq, not_false_eq_true, if_true, Sem.run_bind, p, q, Result.andThen_ok]
  rw [e1 9998]
  simp only [Result.andThen_ok]
  cases hq : (a == c)
  · simp
  · simp only [Bool.not_true, Bool.false_eq_true, if_false, Sem.run_bind, q, Result.andThen_ok, Bool.true_and]
    rw [e2 9998]
    simp only [Result.andThen_ok]
    cases hr : (b == d) <;> simp
theorem bytes_beq (a b : ByteArray) : ((a == b) = true) ↔ a = b := by
  rw [beq_toListBytes, ByteArray.toList_eq, ByteArray.toList_eq, beq_iff_eq]
  exact ⟨bytes_ext, fun h => by rw [h]⟩
theorem same_bits {kk : KeyK} {v : Value} (h : IsK kk v) (n : Nat) : Instr.sameBits (n + 1) v v = true := by
  cases kk with
  | int q => obtain ⟨a, rfl⟩ := h; simp [Instr.sameBits]
  | str => obtain ⟨a, rfl⟩ := h; simp [Instr.sameBits, bytes_beq]
  | two => obtain ⟨a, b, rfl⟩ := h; simp [Instr.sameBits, bytes_beq]

/-- the entry that is found -/
theorem run_findK {P : Program} {w : World} {t : TypeId} {kk : KeyK} (ht : keyK P t = some kk) {kv : Value} (hv : IsK kk kv) (es : List MapEntry) (hall : ∀ e ∈ es, IsK kk e.key) :
    (∀ j e, es[j]? = some e → e.key = kv → (∀ j' e', j' < j → es[j']? = some e' → e'.key ≠ kv) → (Instr.findKey t kv es).run P w = .ok (some (j, e.val)) w) ∧
    ((∀ e ∈ es, e.key ≠ kv) → (Instr.findKey t kv es).run P w = .ok none w) := by
  have now : ∀ (d : TypeDesc), P.underlying t = some d → (∀ e, IsK kk e → Instr.sameNow d kv e = some true ∧ e = kv ∨ Instr.sameNow d kv e = some false ∧ e ≠ kv) →
      (∀ j e, es[j]? = some e → e.key = kv → (∀ j' e', j' < j → es[j']? = some e' → e'.key ≠ kv) → (Instr.findKey t kv es).run P w = .ok (some (j, e.val)) w) ∧
      ((∀ e ∈ es, e.key ≠ kv) → (Instr.findKey t kv es).run P w = .ok none w) := fun d hd hs => by
    have go : ∀ (es : List MapEntry) (i : Nat), (∀ e ∈ es, IsK kk e.key) →
        (∀ j e, es[j]? = some e → e.key = kv → (∀ j' e', j' < j → es[j']? = some e' → e'.key ≠ kv) → Instr.findNow d kv es i = some (some (i + j, e.val))) ∧
        ((∀ e ∈ es, e.key ≠ kv) → Instr.findNow d kv es i = some none) := fun es => by
      induction es with
      | nil => exact fun i _ => ⟨fun j e h => by simp at h, fun _ => rfl⟩
      | cons e0 es ih =>
        intro i hall
        obtain ⟨ih1, ih2⟩ := ih (i + 1) fun e he => hall e (by simp [he])
        refine ⟨fun j e hj he hfst => ?_, fun hno => ?_⟩
        · cases j with
          | zero =>
            simp at hj; subst hj
            rcases hs e0.key (hall e0 (by simp)) with ⟨h1, _⟩ | ⟨_, h2⟩
            · simp [Instr.findNow, h1]
            · exact absurd he h2
          | succ j =>
            have hne := hfst 0 e0 (by omega) rfl
            rcases hs e0.key (hall e0 (by simp)) with ⟨_, h2⟩ | ⟨h1, _⟩
            · exact absurd h2 hne
            · simp only [Instr.findNow, h1]
              rw [ih1 j e (by simpa using hj) he fun j' e' hj' he' => hfst (j' + 1) e' (by omega) (by simpa using he')]
              congr 3
              omega
        · have hne := hno e0 (by simp)
          rcases hs e0.key (hall e0 (by simp)) with ⟨_, h2⟩ | ⟨h1, _⟩
          · exact absurd h2 hne
          · simp only [Instr.findNow, h1]
            exact ih2 fun e he => hno e (by simp [he])
    obtain ⟨g1, g2⟩ := go es 0 hall
    refine ⟨fun j e hj he hf => ?_, fun hno => ?_⟩
    · simp [Instr.findKey, run_underlying' P w t _ hd, g1 j e hj he hf]
    · simp [Instr.findKey, run_underlying' P w t _ hd, g2 hno]
  cases kk with
  | int q =>
    obtain ⟨a, rfl⟩ := hv
    refine now _ (keyK_int ht) fun e ⟨n, hn⟩ => ?_
    subst hn
    by_cases h : a = n
    · subst h; left; simp [Instr.sameNow]
    · right; simp [Instr.sameNow, h]; exact fun h' => h h'.symm
  | str =>
    obtain ⟨a, rfl⟩ := hv
    refine now _ (keyK_str ht) fun e ⟨n, hn⟩ => ?_
    subst hn
    by_cases h : a = n
    · subst h; left; simp [Instr.sameNow, bytes_beq]
    · right
      have hf : (a == n) = false := by
        cases hq : (a == n) with
        | false => rfl
        | true => exact absurd ((bytes_beq a n).1 hq) h
      refine ⟨by simp [Instr.sameNow, hf], fun h' => ?_⟩
      cases h'; exact h rfl
  | two =>
    obtain ⟨a, b, rfl⟩ := hv
    obtain ⟨f, g, h1, _⟩ := keyK_two ht
    have ask : ∀ (es : List MapEntry), (∀ e ∈ es, IsK .two e.key) → (Instr.findKey t (.agg #[.string a, .string b]) es).run P w = (Instr.findAsking t (.agg #[.string a, .string b]) es).run P w := fun es hes => by
      cases es with
      | nil => simp [Instr.findKey, run_underlying' P w t _ h1, Instr.findNow, Instr.findAsking]
      | cons e0 es => simp [Instr.findKey, run_underlying' P w t _ h1, Instr.findNow, Instr.sameNow]
    have go : ∀ (es : List MapEntry) (i : Nat), (∀ e ∈ es, IsK .two e.key) →
        (∀ j e, es[j]? = some e → e.key = .agg #[.string a, .string b] → (∀ j' e', j' < j → es[j']? = some e' → e'.key ≠ .agg #[.string a, .string b]) → (Instr.findAsking t (.agg #[.string a, .string b]) es i).run P w = .ok (some (i + j, e.val)) w) ∧
        ((∀ e ∈ es, e.key ≠ .agg #[.string a, .string b]) → (Instr.findAsking t (.agg #[.string a, .string b]) es i).run P w = .ok none w) := fun es => by
      induction es with
      | nil => exact fun i _ => ⟨fun j e h => by simp at h, fun _ => by simp [Instr.findAsking]⟩
      | cons e0 es ih =>
        intro i hall
        obtain ⟨ih1, ih2⟩ := ih (i + 1) fun e he => hall e (by simp [he])
        obtain ⟨c, d, hcd⟩ := hall e0 (by simp)
        have heq := run_eqTwo (w := w) ht a b c d
        rw [← hcd] at heq
        have hiff : (a == c && b == d) = true ↔ e0.key = .agg #[.string a, .string b] := by
          rw [hcd]; simp [bytes_beq]
          exact ⟨fun h => ⟨h.1.symm, h.2.symm⟩, fun h => ⟨h.1.symm, h.2.symm⟩⟩
        refine ⟨fun j e hj he hfst => ?_, fun hno => ?_⟩
        · cases j with
          | zero =>
            simp at hj; subst hj
            rw [hiff.2 he] at heq
            simp [Instr.findAsking, heq]
          | succ j =>
            have hne := hfst 0 e0 (by omega) rfl
            have hf : (a == c && b == d) = false := by
              cases hq : (a == c && b == d) with
              | false => rfl
              | true => exact absurd (hiff.1 hq) hne
            rw [hf] at heq
            have := ih1 j e (by simpa using hj) he fun j' e' hj' he' => hfst (j' + 1) e' (by omega) (by simpa using he')
            simp only [Instr.findAsking, Sem.run_bind, heq, Result.andThen_ok, Bool.false_eq_true, if_false, this]
            rw [show i + 1 + j = i + (j + 1) by omega]
        · have hne := hno e0 (by simp)
          have hf : (a == c && b == d) = false := by
            cases hq : (a == c && b == d) with
            | false => rfl
            | true => exact absurd (hiff.1 hq) hne
          rw [hf] at heq
          simp only [Instr.findAsking, Sem.run_bind, heq, Result.andThen_ok, Bool.false_eq_true, if_false]
          exact ih2 fun e he => hno e (by simp [he])
    obtain ⟨g1, g2⟩ := go es 0 hall
    rw [ask es hall]
    exact ⟨fun j e hj he hf => by have := g1 j e hj he hf; rwa [Nat.zero_add] at this, g2⟩
end Go.Proofs.YtcpoinfdnimanaaGreatDoor.AE
/- Maps: what is looked up, laid in, and made. No condition. -/
namespace Go.Proofs.YtcpoinfdnimanaaGreatDoor.AE
set_option linter.unusedVariables false
set_option linter.unusedSimpArgs false
open Go Go.RowKit

theorem mapQ_spec {P : Program} {t : TypeId} {kk : KeyK} {e : TypeId} (h : mapQ P t = some (kk, e)) : ∃ k, P.underlying t = some (.map k e) ∧ keyK P k = some kk := by
  unfold mapQ at h
  split at h
  · rename_i k e' hu
    split at h
    · rename_i kk' hk; cases h; exact ⟨k, hu, hk⟩
    · cases h
  · cases h
theorem isMap_spec {bx : HBox} (h : isMap bx = true) : mapT ≤ bx.ty := by simpa [isMap] using h
theorem zvQ_zero {P : Program} {t : TypeId} {z : AV} (h : zvQ P t = some z) (G : Gh) (w : World) : ∃ v, (zeroValue t).run P w = .ok v w ∧ VR G z v := by
  unfold zvQ at h
  split at h
  · rename_i i hi
    split at h
    · rename_i v hv; cases h; exact ⟨v, by simp [zeroValue, typeInfo, hi, hv], ofC_VR G v⟩
    · cases h
  · cases h
/-- the entries of a map, in the world -/
theorem entries_run {w0 : World} {B : Nat} {G : Gh} {S : St} {w : World} (hi : Inv w0 B G S w) {x : AV} {xv : Value} {l : List AV} {fp : FP} (hx : VR G x xv) (h : entriesOf x S = some (l, fp)) :
    ∃ es : Array MapEntry, EntR G l es.toList ∧ ((xv = .map none ∧ es = #[]) ∨ ∃ b clock, xv = .map (some b) ∧ w.heap[b]? = some (.map es clock)) := by
  unfold entriesOf at h
  split at h
  · cases h; cases hx; exact ⟨#[], .nil, .inl ⟨rfl, rfl⟩⟩
  · rename_i id
    split at h
    · rename_i bx hb
      split at h
      · rename_i hm
        cases h
        cases hx with
        | mp _ b hk =>
          obtain ⟨b', es, clock, m1, m2, m3, m4, m5⟩ := hi.ex.mp id bx hb (isMap_spec hm)
          rw [hk] at m1; cases m1
          exact ⟨es, m4, .inr ⟨b, clock, rfl, m3⟩⟩
      · cases h
    · cases h
  · cases h

theorem evLookup_run {P : Program} {w0 : World} {B : Nat} {G : Gh} {S : St} {w : World} (hi : Inv w0 B G S w) {t : TypeId} {x k r : AV} {xv kv : Value} {c : Bool} {fp : FP} (hx : VR G x xv) (hk : VR G k kv) (h : evLookup P t x k c S = some (r, fp)) :
    ∃ v, (Instr.lookup t xv kv c).run P w = .ok v w ∧ VR G r v := by
  unfold evLookup at h
  split at h
  · cases h
  · rename_i kk e hq
    obtain ⟨kt, hu, hkk⟩ := mapQ_spec hq
    split at h
    · rename_i hki
      split at h
      · rename_i l fp' hes
        split at h
        · cases h
        · rename_i hall
          have hall' : allK kk l = true := by simpa using hall
          obtain ⟨es, he, hxv⟩ := entries_run hi hx hes
          obtain ⟨f1, f2⟩ := ent_find hki hk he hall'
          have hIs := keyIs_IsK hki hk
          obtain ⟨g1, g2⟩ := run_findK (w := w) hkk hIs es.toList f1
          have hck : ∀ em, (Instr.checkKey em 10000 kt kv).run P w = .ok () w := fun em => run_checkK hkk hIs em 9998
          have fin1 : ∀ (j : Nat) (v : Value), (Instr.findKey kt kv es.toList).run P w = .ok (some (j, v)) w → (Instr.lookup t xv kv c).run P w = .ok (if c then Value.tuple #[v, .bool true] else v) w := fun j v hr => by
            unfold Instr.lookup
            rcases hxv with ⟨rfl, rfl⟩ | ⟨b, clock, rfl, hb⟩
            · simp only [Sem.run_bind, run_underlying' P w t _ hu, Result.andThen_ok, Sem.run_pure, hck, hr]
            · have hg : (getObj b).run P w = .ok (.map es clock) w := by simp [getObj, Sem.run, hb]
              simp only [Sem.run_bind, run_underlying' P w t _ hu, Result.andThen_ok, Sem.run_pure, hg, hck, hr]
          have fin2 : ∀ (v : Value), (Instr.findKey kt kv es.toList).run P w = .ok none w → (zeroValue e).run P w = .ok v w → (Instr.lookup t xv kv c).run P w = .ok (if c then Value.tuple #[v, .bool false] else v) w := fun v hr hz => by
            unfold Instr.lookup
            rcases hxv with ⟨rfl, rfl⟩ | ⟨b, clock, rfl, hb⟩
            · simp only [Sem.run_bind, run_underlying' P w t _ hu, Result.andThen_ok, Sem.run_pure, hck, hr, hz]
            · have hg : (getObj b).run P w = .ok (.map es clock) w := by simp [getObj, Sem.run, hb]
              simp only [Sem.run_bind, run_underlying' P w t _ hu, Result.andThen_ok, Sem.run_pure, hg, hck, hr, hz]
          rcases f2 with ⟨v, e0, j, a1, a2, a3, a4, a5, _⟩ | ⟨a1, a2, _⟩
          · rw [a1] at h
            simp only [Option.some.injEq, Prod.mk.injEq] at h
            obtain ⟨rfl, rfl⟩ := h
            refine ⟨_, fin1 j e0.val (g1 j e0 a2 a3 a4), ?_⟩
            · cases c
              · exact a5
              · exact .tup _ _ (by simpa using VRL.cons _ _ _ _ a5 (.cons _ _ _ _ (.bool true) .nil))
          · rw [a1] at h
            simp only at h
            split at h
            · rename_i z hz
              simp only [Option.some.injEq, Prod.mk.injEq] at h
              obtain ⟨rfl, rfl⟩ := h
              obtain ⟨zv, z1, z2⟩ := zvQ_zero hz G w
              refine ⟨_, fin2 zv (g2 a2) z1, ?_⟩
              · cases c
                · exact z2
                · exact .tup _ _ (by simpa using VRL.cons _ _ _ _ z2 (.cons _ _ _ _ (.bool false) .nil))
            · cases h
      · cases h
    · cases h

theorem evMapUpdate_run {F : Fix} {P : Program} {fs : FS} {G : Gh} {w : World} {i : Nat} {t : TypeId} {x k v : AV} {xv kv vv : Value} {S' : St} {fp : FP} (hp : Pre F fs G w) (hx : VR G x xv) (hk : VR G k kv) (hv : VR G v vv)
    (h : evMapUpdate P t x k v fs.S = some (S', fp)) :
    ∃ w', (Instr.mapUpdate t xv kv vv).run P w = .ok () w' ∧ Post F fs.c i G fs.b S' .undef G w' (.tuple #[]) := by
  unfold evMapUpdate at h
  split at h
  · rename_i kk e id cs hq hcs
    obtain ⟨kt, hu, hkk⟩ := mapQ_spec hq
    split at h
    · rename_i hc
      simp only [Bool.and_eq_true] at hc
      obtain ⟨⟨hki, hse⟩, hks⟩ := hc
      split at h
      · rename_i bx hb
        split at h
        · rename_i hm
          simp only [Bool.and_eq_true] at hm
          obtain ⟨hm, hall⟩ := hm
          simp only [Option.some.injEq, Prod.mk.injEq] at h
          obtain ⟨rfl, rfl⟩ := h
          cases hx with
          | mp _ b hkb =>
            obtain ⟨b', es, clock, m1, m2, m3, m4, m5⟩ := hp.inv.ex.mp id bx hb (isMap_spec hm)
            rw [hkb] at m1; cases m1
            obtain ⟨f1, f2⟩ := ent_find hki hk m4 hall
            have hIs := keyIs_IsK hki hk
            obtain ⟨g1, g2⟩ := run_findK (w := w) hkk hIs es.toList f1
            have hck : ∀ em, (Instr.checkKey em 10000 kt kv).run P w = .ok () w := fun em => run_checkK hkk hIs em 9998
            have hg : (getObj b).run P w = .ok (.map es clock) w := by simp [getObj, Sem.run, m3]
            have hset : ∀ o : Obj, (setObj b o).run P w = .ok () { w with heap := w.heap.setIfInBounds b o } := fun o => by simp [setObj, Sem.run, m3]
            have hlt := lt_of_heap m3
            have turn : ∀ (es' : Array MapEntry) (clock' : Nat), EntR G (putM k v bx.cs) es'.toList → Post F fs.c i G fs.b { fs.S with H := fs.S.H.set id ⟨bx.ty, putM k v bx.cs⟩ } .undef G { w with heap := w.heap.setIfInBounds b (.map es' clock') } (.tuple #[]) := fun es' clock' hr => by
              have hsz : ({ w with heap := w.heap.setIfInBounds b (.map es' clock') } : World).heap.size = w.heap.size := by simp
              have hoth : ∀ k, k ≠ b → ({ w with heap := w.heap.setIfInBounds b (.map es' clock') } : World).heap[k]? = w.heap[k]? := fun k hne => by
                show (w.heap.setIfInBounds b _)[k]? = _
                rw [Array.getElem?_setIfInBounds_ne (Ne.symm hne)]
              obtain ⟨g1, g2⟩ := hp.inv.mapTurn (w' := { w with heap := w.heap.setIfInBounds b (.map es' clock') }) hb (isMap_spec hm) hkb hr (by show (w.heap.setIfInBounds b _)[b]? = _; rw [Array.getElem?_setIfInBounds_self_of_lt hlt]) hoth hsz
                (Below.base_mono hp.inv.below (by rw [hsz]; exact Nat.le_refl _) (fun k hk => hoth k (by omega)) rfl rfl rfl)
              exact .turn hp g1 g2 rfl .undef
            rcases f2 with ⟨u, e0, j, a1, a2, a3, a4, a5, a6⟩ | ⟨a1, a2, a6⟩
            · refine ⟨_, ?_, turn (es.modify j fun e => { e with key := kv, val := vv }) clock (by rw [Array.toList_modify]; exact a6 v vv hv hks ⟨cs, hcs, hse⟩)⟩
              have hj : es[j]? = some e0 := by rw [← Array.getElem?_toList]; exact a2
              unfold Instr.mapUpdate
              simp [run_underlying' P w t _ hu, hg, hck, g1 j e0 a2 a3 a4, hj, a3, Instr.keyThatStays, same_bits hIs 9999, hset]
            · refine ⟨_, ?_, turn (es.push ⟨kv, vv, clock⟩) (clock + 1) (by rw [Array.toList_push]; exact a6 v vv clock hv hks ⟨cs, hcs, hse⟩)⟩
              unfold Instr.mapUpdate
              simp [run_underlying' P w t _ hu, hg, hck, g2 a2, hset]
        · cases h
      · cases h
    · cases h
  · cases h

theorem makeMap_run {F : Fix} {P : Program} {fs : FS} {G : Gh} {w : World} {i : Nat} {t : TypeId} (hp : Pre F fs G w) :
    ∃ G' w' v, (Instr.makeMap t none).run P w = .ok v w' ∧ Post F fs.c i G fs.b { fs.S with H := fs.S.H ++ [⟨mapT + t, []⟩] } (.mp fs.S.H.length) G' w' v := by
  obtain ⟨G', g1, g2, g3, g4⟩ := hp.inv.mapNew (ty := mapT + t) (Nat.le_add_right _ _) (l := []) (es := #[]) (clock := 0) .nil
  exact ⟨G', w.alloc (.map #[] 0), .map (some w.heap.size), by simp [Instr.makeMap], .turn hp g1 g2 g3 (.mp _ _ g4)⟩

theorem EntR.length {G : Gh} {l : List AV} {m : List MapEntry} (r : EntR G l m) : m.length = l.length := by
  induction r with
  | nil => rfl
  | cons _ _ _ _ _ _ _ _ _ _ ih => simp [ih]
end Go.Proofs.YtcpoinfdnimanaaGreatDoor.AE
/- One operation of the evaluator is the model's. No condition. -/
namespace Go.Proofs.YtcpoinfdnimanaaGreatDoor.AE
set_option linter.unusedVariables false
set_option linter.unusedSimpArgs false
open Go Go.RowKit

def ResR (G : Gh) : Res → Ending → Prop
  | .ret v, .returned v' => VR G v v'
  | .pan v, .panicked ch => ∃ v', ch = [{ v := v', recovered := false }] ∧ VR G v v'
  | _, _ => False

/-- what is asked of the calls that an evaluation makes: frames below 'lim' are theirs -/
def CalOK (P : Program) (call : Cal) (lim : Nat) : Prop := ∀ f args S r S', call f args S = some (r, S') →
  (∃ fn, P.funcs[f]? = some fn ∧ (fn.name == "runtime.NumGoroutine") = false ∧ fn.body.isSome = true) ∧
  ∀ (w0 : World) (B : Nat) (G : Gh) (w : World) (vs : Array Value), Inv w0 B G S w → (∀ d v, d < lim → G.nu d v = none) → VRL G args vs.toList →
    Calls P f vs w fun e w' => ∃ G', Inv w0 B G' S' w' ∧ Ext G w G' w' ∧ G'.nu = G.nu ∧ ResR G' r e

structure PostP (F : Fix) (G : Gh) (b' : Nat → Nat × List AV) (S' : St) (v : AV) (G' : Gh) (w' : World) (v' : Value) : Prop where
  vr : VR G' v v'
  inv : Inv F.w0 F.B G' S' w'
  le : Gle G G'
  ext : Ext F.Ge F.we G' w'
  loc : LInv F.we.heap.size G' w' F.cx.dep b'
  nu : G'.nu = G.nu

theorem wp_value {P : Program} {o : Oper} {a : Act} {w w' : World} {v : Value} {next : Act → World → Prop} {Q : Exit → Act → World → Prop} (h : (execOp a.eval o).run P w = .ok (.value v) w') (hk : next (a.put o.dst v) w') : o.wp P a w next Q := by
  unfold Oper.wp; rw [h]; exact hk
theorem wp_skipped {P : Program} {o : Oper} {a : Act} {w w' : World} {next : Act → World → Prop} {Q : Exit → Act → World → Prop} (h : (execOp a.eval o).run P w = .ok .skip w') (hk : next (a.put o.dst (.tuple #[])) w') : o.wp P a w next Q := by
  unfold Oper.wp; rw [h]; exact hk

theorem evLoad_run {F : Fix} {fs : FS} {G : Gh} {w : World} {t : TypeId} {x v : AV} {xv : Value} {b' : Nat → Nat × List AV} {S' : St} {fp : FP} (hp : Pre F fs G w) (hx : VR G x xv) (h : evLoad F.cx t x fs = some (.val v b' S' fp)) :
    b' = fs.b ∧ S' = fs.S ∧ ∃ v', (Instr.loadAt t xv).run F.cx.P w = .ok v' w ∧ VR G v v' := by
  unfold evLoad at h
  split at h
  · cases h
  · rename_i hk
    have hu : (F.cx.P.underlying t).isSome := by
      cases hh : F.cx.P.underlying t with
      | none => simp [knownQ, hh] at hk
      | some _ => rfl
    split at h
    · rename_i cs
      split at h
      · rename_i r hr
        cases h
        obtain ⟨b, o, rfl, hv⟩ := hx.inv_ref
        obtain ⟨v', h1, h2⟩ := rdc_load (w := w) hu (Cells.of_imm hp.inv hv) hr
        exact ⟨rfl, rfl, v', by simp [Instr.loadAt, Instr.sureAddr, h1], h2⟩
      · cases h
    · rename_i dep d ver off
      split at h
      · rename_i hc
        split at h
        · rename_i r hr
          cases h
          obtain ⟨rfl, hver, h0⟩ := hc
          obtain ⟨k, rfl, hk'⟩ := hx.inv_loc
          obtain ⟨k', vs, ty, k1, k2, k3, k4, _⟩ := hp.loc.box d (by rw [hver]; exact h0)
          rw [hver, hk'] at k1; cases k1
          obtain ⟨v', h1, h2⟩ := rdc_load (w := w) hu (Cells.of_heap k3 k4 off) hr
          exact ⟨rfl, rfl, v', by simp [Instr.loadAt, Instr.sureAddr, h1], h2⟩
        · cases h
      · cases h
    · rename_i id off
      split at h
      · rename_i bx hbx
        split at h
        · rename_i hty
          split at h
          · rename_i r hr
            cases h
            obtain ⟨k, rfl, hk'⟩ := hx.inv_ptr
            obtain ⟨k', vs, k1, k2, k3, k4, _⟩ := hp.inv.box id bx hbx hty
            rw [hk'] at k1; cases k1
            obtain ⟨v', h1, h2⟩ := rdc_load (w := w) hu (Cells.of_heap k3 k4 off) hr
            exact ⟨rfl, rfl, v', by simp [Instr.loadAt, Instr.sureAddr, h1], h2⟩
          · cases h
        · cases h
      · cases h
    · rename_i id ver off
      split at h
      · rename_i cs hcs
        split at h
        · rename_i r hr
          cases h
          obtain ⟨k, m, rfl, hk'⟩ := hx.inv_rp
          cases hbx : fs.S.H[id]? with
          | none => rw [hbx] at hcs; simp at hcs
          | some bx =>
            rw [hbx] at hcs
            simp only [Option.bind_some] at hcs
            obtain ⟨v', h1, h2⟩ := rdc_load (w := w) hu (row_cells hp.inv hbx hcs hk' off) hr
            exact ⟨rfl, rfl, v', by simp [Instr.loadAt, Instr.sureAddr, h1], h2⟩
        · cases h
      · cases h
    · cases h
theorem evLoad_nopan {cx : Ctx} {t : TypeId} {x v : AV} {fs : FS} {S : St} (h : evLoad cx t x fs = some (.pan v S)) : False := by
  unfold evLoad at h
  repeat' split at h
  all_goals cases h

theorem evStore_run {F : Fix} {fs : FS} {G : Gh} {w : World} {i : Nat} {t : TypeId} {x y v : AV} {xv yv : Value} {b' : Nat → Nat × List AV} {S' : St} {fp : FP} (hp : Pre F fs G w) (hx : VR G x xv) (hy : VR G y yv) (h : evStore F.cx t x y fs = some (.val v b' S' fp)) :
    ∃ G' w', (Instr.storeAt t xv yv).run F.cx.P w = .ok () w' ∧ Post F fs.c i G b' S' v G' w' (.tuple #[]) := by
  unfold evStore at h
  split at h
  · cases h
  · rename_i new hnew
    obtain ⟨n1, n2, n3⟩ := hy.cells hnew
    have hl := n1.length
    simp at hl
    split at h
    · rename_i hc
      obtain ⟨ii, hii⟩ := Option.isSome_iff_exists.1 hc.2
      have hsz : ¬ (yv.cells.size ≠ F.cx.P.cellsOf t) := by rw [hl, hc.1]; simp
      have run : ∀ b o, (∀ j, j < yv.cells.toList.length → (w.cell? ⟨b, o + j, none⟩).isSome = true) → (∀ j, j < yv.cells.toList.length → w.frozen? ⟨b, o + j, none⟩ = false) →
          (Instr.storeAt t (.pointer (some ⟨b, o, none⟩)) yv).run F.cx.P w = .ok () (setL b o yv.cells.toList w) := fun b o r1 r2 => by
        have := run_storeCells_at F.cx.P b o yv.cells.toList 0 w n2 (by simpa using r1) (by simpa using r2)
        simp only [Nat.add_zero] at this
        simp only [Instr.storeAt, Instr.sureAddr, storeVar, Sem.run_bind, Sem.run_pure, Result.andThen_ok, run_sizeOf' F.cx.P w t ii hii, hsz, if_false, this, ne_eq]
      split at h
      · rename_i dep d ver off
        split at h
        · rename_i hd
          split at h
          · rename_i cs hw
            cases h
            obtain ⟨rfl, hver, h0⟩ := hd
            obtain ⟨k, rfl, hk'⟩ := hx.inv_loc
            obtain ⟨r1, r2, hpost⟩ := store_local (i := i) hp hver h0 hk' hw n1 n2 n3
            exact ⟨G, _, run k off r1 r2, hpost⟩
          · cases h
        · cases h
      · rename_i id off
        split at h
        · rename_i bx hbx
          split at h
          · rename_i hty
            split at h
            · rename_i cs hw
              split at h
              · rename_i hse
                cases h
                obtain ⟨k, rfl, hk'⟩ := hx.inv_ptr
                obtain ⟨r1, r2, hpost⟩ := store_heap (i := i) hp hbx hty hk' hw hse n1 n2 n3
                exact ⟨G, _, run k off r1 r2, hpost⟩
              · cases h
            · cases h
          · cases h
        · cases h
      · rename_i id ver off
        split at h
        · rename_i bx hbx
          split at h
          · rename_i old hold
            split at h
            · rename_i cs hw
              split at h
              · rename_i hse
                cases h
                obtain ⟨k, m, rfl, hk'⟩ := hx.inv_rp
                obtain ⟨r1, r2, G', hpost⟩ := store_row (i := i) hp hbx hold hk' hw hse n1 n2 n3
                exact ⟨G', _, run k off r1 r2, hpost⟩
              · cases h
            · cases h
          · cases h
        · cases h
      · cases h
    · cases h
theorem evStore_nopan {cx : Ctx} {t : TypeId} {x y v : AV} {fs : FS} {S : St} (h : evStore cx t x y fs = some (.pan v S)) : False := by
  unfold evStore at h
  repeat' split at h
  all_goals cases h

theorem evBox_run {F : Fix} {fs : FS} {G : Gh} {w : World} {i : Nat} {dst : Option Tmp} {ty : TypeId} {cs : List AV} {vs : Array Value} {v : AV} {b' : Nat → Nat × List AV} {S' : St} {fp : FP} (hp : Pre F fs G w) (hn : G.nu F.cx.dep (fs.c + i + 1) = none)
    (hr : VRL G cs vs.toList) (h1 : ∀ x ∈ vs.toList, oneV x = true) (h2 : ∀ x ∈ cs, x.isCell = true) (h : evBox F.cx i dst ty cs fs = some (.val v b' S' fp)) :
    ∃ G', Post F fs.c i G b' S' v G' (w.alloc (.cells vs ty)) (.pointer (some ⟨w.heap.size, 0, none⟩)) := by
  unfold evBox at h
  split at h
  · cases h
  · split at h
    · split at h
      · rename_i hs
        simp only [Bool.and_eq_true, decide_eq_true_eq] at hs
        cases h
        exact box_heap hp hr h1 h2 hs.1 hs.2
      · cases h
    · cases h
      exact box_local hp hn hr h1 h2
theorem evBox_nopan {cx : Ctx} {i : Nat} {dst : Option Tmp} {ty : TypeId} {cs : List AV} {v : AV} {fs : FS} {S : St} (h : evBox cx i dst ty cs fs = some (.pan v S)) : False := by
  unfold evBox at h
  repeat' split at h
  all_goals cases h

theorem goOp_val {S : St} {b : Nat → Nat × List AV} {x : Option AV} {v : AV} {b' : Nat → Nat × List AV} {S' : St} {fp : FP} (h : goOp S b x = some (.val v b' S' fp)) : x = some v ∧ b' = b ∧ S' = S := by
  unfold goOp at h
  split at h
  · cases h; exact ⟨rfl, rfl, rfl⟩
  · cases h
theorem goOp_nopan {S S' : St} {b : Nat → Nat × List AV} {x : Option AV} {v : AV} (h : goOp S b x = some (.pan v S')) : False := by
  unfold goOp at h
  split at h <;> cases h

theorem run_value {P : Program} {w w' : World} {s : Sem Value} {v : Value} (h : s.run P w = .ok v w') : (do pure (Next.value (← s)) : Sem Next).run P w = .ok (.value v) w' := by
  simp [h]
theorem run_skip {P : Program} {w w' : World} {s : Sem Unit} (h : s.run P w = .ok () w') : (do s; pure Next.skip : Sem Next).run P w = .ok .skip w' := by
  simp [h]

theorem rhoL_VRL {G : Gh} {t : Nat → AV} {a : Act} (h : ∀ x, VR G (t x) (a.tmps.getD x undef)) (l : Array Operand) : VRL G (rhoL t l) (l.map a.eval).toList := by
  unfold rhoL
  rw [Array.toList_map]
  exact VRL.map _ fun x _ => rho_VR h x

/-- what the whole of one operation is -/
def OpSound (F : Fix) (fs : FS) (G : Gh) (a : Act) (w : World) (i : Nat) (o : Oper) : OR → Prop
  | .val v b S _ => ∀ (next : Act → World → Prop) (Q : Exit → Act → World → Prop), (∀ G' w' v', Post F fs.c i G b S v G' w' v' → next (a.put o.dst v') w') → o.wp F.cx.P a w next Q
  | .pan v S => ∀ (next : Act → World → Prop) (Q : Exit → Act → World → Prop), (∀ G' w' v', PostP F G fs.b S v G' w' v' → Q (.panic [{ v := v', recovered := false }]) a w') → o.wp F.cx.P a w next Q

theorem OpSound.pure {F : Fix} {fs : FS} {G : Gh} {a : Act} {w : World} {i : Nat} {o : Oper} (hp : Pre F fs G w) {v : AV} {v' : Value} {fp : FP} (h : (execOp a.eval o).run F.cx.P w = .ok (.value v') w) (hv : VR G v v') : OpSound F fs G a w i o (.val v fs.b fs.S fp) :=
  fun _ _ hk => wp_value h (hk G w v' (Post.same hp hv))
theorem OpSound.go {F : Fix} {fs : FS} {G : Gh} {a : Act} {w : World} {i : Nat} {o : Oper} (hp : Pre F fs G w) {x : Option AV} {r : OR} (h : goOp fs.S fs.b x = some r) (hk : ∀ v, x = some v → ∃ v', (execOp a.eval o).run F.cx.P w = .ok (.value v') w ∧ VR G v v') :
    OpSound F fs G a w i o r := by
  cases r with
  | pan v S => exact (goOp_nopan h).elim
  | val v b S fp =>
    obtain ⟨e1, rfl, rfl⟩ := goOp_val h
    obtain ⟨v', h1, h2⟩ := hk v e1
    exact .pure hp h1 h2

theorem callee_sound {F : Fix} {call : Cal} {fs : FS} {G : Gh} {a : Act} {w : World} {i : Nat} {o : Oper} (hp : Pre F fs G w) (hnu : ∀ d v, d < F.cx.dep → G.nu d v = none) (hc : CalOK F.cx.P call F.cx.dep)
    {f : AV} {fv : Value} {args : List AV} {avs : Array Value} (hf : VR G f fv) (ha : VRL G args avs.toList) {r : OR} (h : evCallee call fs f args = some r)
    (hop : ∀ g first cap, fv = .func (.func g) first cap → (∃ fn, F.cx.P.funcs[g]? = some fn ∧ (fn.name == "runtime.NumGoroutine") = false ∧ fn.body.isSome = true) → (execOp a.eval o).run F.cx.P w = .ok (.enter g (first ++ avs ++ cap)) w) :
    OpSound F fs G a w i o r := by
  unfold evCallee at h
  split at h
  · rename_i g first cap
    cases hf with
    | fn _ _ _ fv cv h1 h2 =>
      have hargs : VRL G (first ++ (args ++ cap)) (fv ++ avs ++ cv).toList := by
        have := h1.append (ha.append h2)
        simpa [Array.toList_append, List.append_assoc] using this
      split at h
      · rename_i v S' hcall
        cases h
        obtain ⟨hfn, hcs⟩ := hc _ _ _ _ _ hcall
        have hrun := hop g fv cv rfl hfn
        intro next Q hk
        unfold Oper.wp
        rw [hrun]
        refine (hcs F.w0 F.B G w _ hp.inv hnu hargs).mono fun e w' ⟨G', i1, i2, i3, i4⟩ => ?_
        cases e with
        | returned v' => exact hk G' w' v' ⟨i4, i1, i2.le, hp.ext.trans F.ie i2, hp.loc.ext i2, fun _ _ h => absurd (congrFun (congrFun i3 _) _) h⟩
        | panicked ch => exact i4.elim
        | outgrown => exact i4.elim
      · rename_i v S' hcall
        cases h
        obtain ⟨hfn, hcs⟩ := hc _ _ _ _ _ hcall
        have hrun := hop g fv cv rfl hfn
        intro next Q hk
        unfold Oper.wp
        rw [hrun]
        refine (hcs F.w0 F.B G w _ hp.inv hnu hargs).mono fun e w' ⟨G', i1, i2, i3, i4⟩ => ?_
        cases e with
        | returned v' => exact i4.elim
        | panicked ch => obtain ⟨v', rfl, i4⟩ := i4; exact hk G' w' v' ⟨i4, i1, i2.le, hp.ext.trans F.ie i2, hp.loc.ext i2, i3⟩
        | outgrown => exact i4.elim
      · cases h
  · cases h

theorem VRL.one' {G : Gh} {x : AV} {l : List Value} (h : VRL G [x] l) : ∃ a, l = [a] ∧ VR G x a := by
  cases h with | cons _ a _ m h1 h2 => cases h2; exact ⟨a, rfl, h1⟩
theorem arr_of_list {α : Type} {x : Array α} {l : List α} (h : x.toList = l) : x = l.toArray := by cases x; simp at h; rw [h]

theorem builtin_sound {F : Fix} {fs : FS} {G : Gh} {a : Act} {w : World} {i : Nat} {o : Oper} {bi : Builtin} {ts : Array TypeId} {rt : TypeId} {cs : Array Bool} {args : List AV} {avs : Array Value} (hp : Pre F fs G w) (ha : VRL G args avs.toList) {r : OR}
    (h : evBuiltin F.cx bi ts.toList args fs = some r) (hop : execOp a.eval o = builtin bi ts rt cs avs) : OpSound F fs G a w i o r := by
  unfold evBuiltin at h
  split at h
  · split at h
    · rename_i t tl x xs hts
      have ht : ts[0]? = some t := by rw [← Array.getElem?_toList, hts]; rfl
      refine .go hp h fun v hv => ?_
      obtain ⟨xv, hx1, hx2⟩ := ha.get (i := 0) (a := x) rfl
      obtain ⟨v', h1, h2⟩ := evLen_run (P := F.cx.P) (w := w) (u := rt) ht (l := avs) (by simpa using hx1) hx2 hv
      exact ⟨v', by rw [hop]; exact run_value h1, h2⟩
    · cases h
  · split at h
    · rename_i x y
      refine .go hp h fun v hv => ?_
      obtain ⟨p, q, e, hx, hy⟩ := ha.two
      have e' := arr_of_list e
      subst e'
      obtain ⟨v', h1, h2⟩ := evMin2_run (P := F.cx.P) (w := w) hx hy hv
      refine ⟨v', ?_, h2⟩
      rw [hop]
      refine run_value ?_
      simp [Builtin.min_, h1]
    · cases h
  · split at h
    · rename_i x y
      refine .go hp h fun v hv => ?_
      obtain ⟨p, q, e, hx, hy⟩ := ha.two
      have e' := arr_of_list e
      subst e'
      obtain ⟨v', h1, h2⟩ := evMax2_run (P := F.cx.P) (w := w) hx hy hv
      refine ⟨v', ?_, h2⟩
      rw [hop]
      refine run_value ?_
      simp [Builtin.max_, h1]
    · cases h
  · split at h
    · rename_i s x
      split at h
      · rename_i v S' hv
        cases h
        obtain ⟨p, q, e, hx, hy⟩ := ha.two
        have e' := arr_of_list e
        subst e'
        obtain ⟨G', w', v', h1, h2⟩ := evAppend_run (i := i) (rt := rt) hp hx hy hv
        intro next Q hk
        refine wp_value (v := v') ?_ (hk G' w' v' h2)
        rw [hop]
        exact run_value h1
      · cases h
    · cases h
  · cases h

theorem evCalm_val {call : Cal} {fs : FS} {f : AV} {args : List AV} {r : OR} (h : evCalm call fs f args = some r) :
    ∃ v b S' fp fp', r = .val v b S' fp' ∧ evCallee call fs f args = some (.val v b S' fp) ∧ ((fp' = .rh ∧ S' = fs.S) ∨ (fp' = .nw fs.S.H.length ∧ S'.H.take fs.S.H.length = fs.S.H)) := by
  unfold evCalm at h
  split at h
  · rename_i v b S' fp hv
    split at h
    · rename_i hc
      simp only [Bool.and_eq_true, beq_iff_eq] at hc
      cases h
      have e : S' = fs.S := by
        have h1 := boxEqL_spec _ _ hc.1
        have h2 := hc.2
        obtain ⟨H, T⟩ := S'
        generalize fs.S = S2 at h1 h2
        obtain ⟨H2, T2⟩ := S2
        simp only at h1 h2
        rw [h1, h2]
      exact ⟨v, b, _, fp, _, rfl, by rw [hv, e], .inl ⟨rfl, rfl⟩⟩
    · split at h
      · rename_i hc
        cases h
        exact ⟨v, b, _, fp, _, rfl, hv, .inr ⟨rfl, boxEqL_spec _ _ hc⟩⟩
      · cases h
  · cases h
theorem isCell_cells {x : AV} (h : x.isCell = true) : x.cells? = some [x] := by
  cases x <;> simp [AV.isCell] at h <;> rfl
theorem chunks_flat {agg : Bool} {sz : Nat} (ha : (agg || sz == 1) = true) : ∀ (n : Nat) (cs : List AV), cs.length = n * sz → (∀ x ∈ cs, x.isCell = true) → flatQ (chunks agg sz n cs) = some cs ∧ (chunks agg sz n cs).length = n
  | 0, cs, h, _ => by
    have : cs = [] := List.eq_nil_of_length_eq_zero (by simpa using h)
    subst this
    exact ⟨rfl, rfl⟩
  | n + 1, cs, h, hc => by
    rw [Nat.add_mul, Nat.one_mul] at h
    obtain ⟨h1, h2⟩ := chunks_flat ha n (cs.drop sz) (by simp; omega) fun x hx => hc x (List.mem_of_mem_drop hx)
    simp only [chunks]
    cases agg with
    | true =>
      have h3 : flatQ [AV.agg (cs.take sz)] = some (cs.take sz) := by
        have : (cs.take sz).all AV.isCell = true := List.all_eq_true.2 fun x hx => hc x (List.mem_of_mem_take hx)
        simp only [flatQ, AV.cells?, this, if_true, List.append_nil]
      refine ⟨?_, by simp [h2]⟩
      have := flatQ_append h3 h1
      simpa [List.take_append_drop] using this
    | false =>
      have e : sz = 1 := by simpa using ha
      subst e
      cases cs with
      | nil => simp at h
      | cons c cs =>
        have h3 : flatQ [c] = some [c] := by simp [flatQ, isCell_cells (hc c (by simp))]
        simp only [List.drop_succ_cons, List.drop_zero] at h1 h2
        refine ⟨?_, by simp [h2]⟩
        have := flatQ_append h3 h1
        simpa using this

theorem builtinM_sound {F : Fix} {fs : FS} {G : Gh} {a : Act} {w : World} {i : Nat} {o : Oper} {bi : Builtin} {mk : Bool} {ts : Array TypeId} {rt : TypeId} {cs : Array Bool} {args : List AV} {avs : Array Value} (hp : Pre F fs G w) (ha : VRL G args avs.toList) {r : OR}
    (h : evBuiltinM F.cx bi mk ts.toList args fs = some r) (hop : execOp a.eval o = builtin bi ts rt cs avs) : OpSound F fs G a w i o r := by
  unfold evBuiltinM at h
  split at h
  · rename_i s x
    obtain ⟨p, q, e, hx, hy⟩ := ha.two
    have e' := arr_of_list e
    subst e'
    split at h
    · split at h
      · rename_i v S' fp hv
        cases h
        obtain ⟨G', w', v', h1, h2⟩ := evAppendM_run (i := i) (rt := rt) hp hx hy hv
        intro next Q hk
        exact wp_value (v := v') (by rw [hop]; exact run_value h1) (hk G' w' v' h2)
      · cases h
    · split at h
      · rename_i e he
        split at h
        · cases h
        · rename_i hag
          split at h
          · rename_i cells n hsrc hn
            split at h
            · rename_i v S' hv
              cases h
              obtain ⟨G', w', v', h1, h2⟩ := evAppend_src (i := i) (rt := rt) (xv := q) hp hx (fun xs e2 he2 h1 h2 w' hw' => by
                rw [he] at he2; cases he2
                simp only [elemsOf, Option.some.injEq] at h1
                subst h1
                have base : ∀ w1, Inv F.w0 F.B G fs.S w1 → (Builtin.lenOf q).run F.cx.P w1 = .ok (chunks (aggQ F.cx.P e) (F.cx.P.cellsOf e) n cells).length w1 ∧ ∃ fl news, flatQ (chunks (aggQ F.cx.P e) (F.cx.P.cellsOf e) n cells) = some fl ∧ fl.length = (chunks (aggQ F.cx.P e) (F.cx.P.cellsOf e) n cells).length * F.cx.P.cellsOf e ∧ VRL G fl news ∧
                    (Builtin.firstCells (F.cx.P.cellsOf e) (chunks (aggQ F.cx.P e) (F.cx.P.cellsOf e) n cells).length q).run F.cx.P w1 = .ok news.toArray w1 := fun w1 hi1 => by
                  obtain ⟨n1, n2, n3, news, n4, n5⟩ := src_run (P := F.cx.P) hi1 hy hsrc hn
                  obtain ⟨c1, c2⟩ := chunks_flat (agg := aggQ F.cx.P e) (by cases hq : (aggQ F.cx.P e || F.cx.P.cellsOf e == 1) with | true => rfl | false => exact absurd hq hag) n cells n2 n3
                  rw [c2]
                  have hnl := n4.length
                  refine ⟨n1, cells, news, c1, n2, n4, ?_⟩
                  rw [n5 n (Nat.le_refl _), List.take_of_length_le (by omega)]
                rcases hw' with rfl | rfl
                · exact base _ hp.inv
                · exact base _ hp.inv.drew) hv
              intro next Q hk
              exact wp_value (v := v') (by rw [hop]; exact run_value h1) (hk G' w' v' h2)
            · cases h
          · cases h
      · cases h
  · rename_i d x
    obtain ⟨p, q, e, hx, hy⟩ := ha.two
    have e' := arr_of_list e
    subst e'
    split at h
    · rename_i v S' hv
      cases h
      obtain ⟨G', w', v', h1, h2⟩ := evCopyM_run (i := i) (rt := rt) hp hx hy hv
      intro next Q hk
      exact wp_value (v := v') (by rw [hop]; exact run_value h1) (hk G' w' v' h2)
    · cases h
  · rename_i d
    obtain ⟨p, e, hx⟩ := ha.one'
    have e' := arr_of_list e
    subst e'
    split at h
    · rename_i v S' hv
      cases h
      obtain ⟨G', w', v', h1, h2⟩ := evClearM_run (i := i) (rt := rt) hp hx hv
      intro next Q hk
      exact wp_value (v := v') (by rw [hop]; exact run_value h1) (hk G' w' v' h2)
    · cases h
  · cases h

theorem builtinQ_sound {F : Fix} {fs : FS} {G : Gh} {a : Act} {w : World} {i : Nat} {o : Oper} {bi : Builtin} {mk : Bool} {ts : Array TypeId} {rt : TypeId} {cs : Array Bool} {args : List AV} {avs : Array Value} (hp : Pre F fs G w) (ha : VRL G args avs.toList) {r : OR}
    (h : evBuiltinQ F.cx bi mk ts.toList args fs = some r) (hop : execOp a.eval o = builtin bi ts rt cs avs) : OpSound F fs G a w i o r := by
  unfold evBuiltinQ at h
  split at h
  · exact builtinM_sound hp ha h hop
  · split at h
    · rename_i r' hr
      cases h
      exact builtin_sound hp ha hr hop
    · exact builtinM_sound hp ha h hop

theorem zvQ_spec {P : Program} {t : TypeId} {z : AV} (h : zvQ P t = some z) : ∃ i v, P.info? t = some i ∧ i.zero = some v ∧ z = ofC v := by
  unfold zvQ at h
  split at h
  · rename_i i hi
    split at h
    · rename_i v hv; cases h; exact ⟨i, v, hi, hv, rfl⟩
    · cases h
  · cases h
theorem evAssert_run {P : Program} {G : Gh} {w : World} {t xT : TypeId} {x r : AV} {a : Value} (hx : VR G x a) (h : evAssert P t x = some r) : ∃ v, (Instr.typeAssert a xT t true).run P w = .ok v w ∧ VR G r v := by
  unfold evAssert at h
  split at h
  · rename_i hcq
    obtain ⟨d, hu, hd⟩ : ∃ d, P.underlying t = some d ∧ ∀ ms, d ≠ .interface ms := by
      unfold concQ at hcq
      split at hcq
      · cases hcq
      · cases hcq
      · rename_i hne hn
        cases hu : P.underlying t with
        | none => exact absurd hu hn
        | some d => exact ⟨d, rfl, fun ms e => hne ms (by rw [hu, e])⟩
    have hz : ∀ z, zvQ P t = some z → ∃ zv, (zeroValue t).run P w = .ok zv w ∧ VR G z zv := fun z hz => by
      obtain ⟨i, v, h1, h2, rfl⟩ := zvQ_spec hz
      exact ⟨v, by simp [zeroValue, typeInfo, h1, h2], ofC_VR G v⟩
    split at h
    · rename_i u v
      cases hx with
      | iface _ _ v' hv =>
        split at h
        · rename_i e
          subst e
          cases h
          refine ⟨.tuple #[v', .bool true], ?_, .tup _ _ (by simpa using VRL.cons _ _ _ _ hv (.cons _ _ _ _ (.bool true) .nil))⟩
          cases d <;> first | exact absurd rfl (hd _) | simp [Instr.typeAssert, run_underlying' P w u _ hu]
        · rename_i e
          split at h
          · rename_i z hzz
            cases h
            obtain ⟨zv, z1, z2⟩ := hz z hzz
            refine ⟨.tuple #[zv, .bool false], ?_, .tup _ _ (by simpa using VRL.cons _ _ _ _ z2 (.cons _ _ _ _ (.bool false) .nil))⟩
            cases d <;> first | exact absurd rfl (hd _) | simp [Instr.typeAssert, run_underlying' P w t _ hu, e, z1]
          · cases h
    · cases hx
      split at h
      · rename_i z hzz
        cases h
        obtain ⟨zv, z1, z2⟩ := hz z hzz
        refine ⟨.tuple #[zv, .bool false], ?_, .tup _ _ (by simpa using VRL.cons _ _ _ _ z2 (.cons _ _ _ _ (.bool false) .nil))⟩
        cases d <;> first | exact absurd rfl (hd _) | simp [Instr.typeAssert, run_underlying' P w t _ hu, z1]
      · cases h
    · cases h
  · cases h

theorem evOp_sound {F : Fix} {call : Cal} {fs : FS} {G : Gh} {a : Act} {w : World} {i : Nat} {o : Oper} (hp : Pre F fs G w) (htm : ∀ x, VR G (fs.t x) (a.tmps.getD x undef)) (hn : G.nu F.cx.dep (fs.c + i + 1) = none)
    (hnu : ∀ d v, d < F.cx.dep → G.nu d v = none) (hc : CalOK F.cx.P call F.cx.dep) {r : OR} (h : evOp F.cx call i o fs = some r) : OpSound F fs G a w i o r := by
  have R : ∀ x, VR G (rho fs.t x) (a.eval x) := rho_VR htm
  unfold evOp at h
  split at h
  · rename_i x hop; cases h; exact .pure hp (by simp [execOp, hop]) (R x)
  · rename_i x hop; cases h; exact .pure hp (by simp [execOp, hop]) (R x)
  · rename_i c x y hop
    split at h
    · rename_i q hq
      cases h
      have hb : a.eval c = .bool q := by have := R c; rw [hq] at this; exact this.inv_bool
      cases q with
      | true => exact .pure hp (v' := a.eval x) (by simp [execOp, hop, hb, asBool]) (by simpa using R x)
      | false => exact .pure hp (v' := a.eval y) (by simp [execOp, hop, hb, asBool]) (by simpa using R y)
    · cases h
  · rename_i ty hop
    split at h
    · rename_i z hz
      obtain ⟨ii, zv, z1, z2, z3, z4, z5, z6, z7, z8⟩ := zero_cells hz G
      cases r with
      | pan v S => exact (evBox_nopan h).elim
      | val v b S fp =>
        obtain ⟨G', hpost⟩ := evBox_run (ty := ty) hp hn z6 z7 z8 h
        intro next Q hk
        refine wp_value ?_ (hk G' _ _ hpost)
        simp [execOp, hop, Instr.alloc, zeroValue, typeInfo, z1, z2, newVar, newRow]
    · cases h
  · rename_i ty x hop
    split at h
    · rename_i cs hcs
      obtain ⟨n1, n2, n3⟩ := (R x).cells hcs
      cases r with
      | pan v S => exact (evBox_nopan h).elim
      | val v b S fp =>
        obtain ⟨G', hpost⟩ := evBox_run (ty := ty) hp hn n1 n2 n3 h
        intro next Q hk
        refine wp_value ?_ (hk G' _ _ hpost)
        simp [execOp, hop, Instr.box, newVar, newRow]
    · cases h
  · rename_i t parts hop
    refine .go hp h fun v hv => ?_
    obtain ⟨v', h1, h2⟩ := evBuild_run (P := F.cx.P) (w := w) (qs := parts.map fun p => (p.1, a.eval p.2)) (by rw [Array.toList_map]; exact PVR.of_map htm parts.toList) hv
    exact ⟨v', by simp only [execOp, hop]; exact run_value h1, h2⟩
  · rename_i t n parts hop
    cases r with
    | pan v S => exact (goOp_nopan h).elim
    | val v b S fp =>
      obtain ⟨e1, rfl, rfl⟩ := goOp_val h
      obtain ⟨G', w', v', h1, h2⟩ := evBuildSlice_run (i := i) (qs := parts.map fun p => (p.1, a.eval p.2)) hp (by rw [Array.toList_map]; exact PVR.of_map htm parts.toList) e1
      intro next Q hk
      exact wp_value (by simp only [execOp, hop]; exact run_value h1) (hk G' w' v' h2)
  · rename_i t x hop
    cases r with
    | pan v S => exact (evLoad_nopan h).elim
    | val v b S fp =>
      obtain ⟨rfl, rfl, v', h1, h2⟩ := evLoad_run hp (R x) h
      exact .pure hp (by simp only [execOp, hop]; exact run_value h1) h2
  · rename_i t x y hop
    cases r with
    | pan v S => exact (evStore_nopan h).elim
    | val v b S fp =>
      obtain ⟨G', w', h1, h2⟩ := evStore_run (i := i) hp (R x) (R y) h
      intro next Q hk
      exact wp_skipped (by simp only [execOp, hop]; exact run_skip h1) (hk G' w' _ h2)
  · rename_i x hop
    have hr := R x
    split at h
    · rename_i cs e
      cases h
      rw [e] at hr
      obtain ⟨b, o', e2, hv⟩ := hr.inv_ref
      exact .pure hp (by simp [execOp, hop, e2]) (.ref _ _ _ hv)
    · rename_i p q s t e
      cases h
      rw [e] at hr
      obtain ⟨b, e2, hv⟩ := hr.inv_loc
      exact .pure hp (by simp [execOp, hop, e2]) (.loc _ _ _ _ _ hv)
    · rename_i p q e
      cases h
      rw [e] at hr
      obtain ⟨b, e2, hv⟩ := hr.inv_ptr
      exact .pure hp (by simp [execOp, hop, e2]) (.ptr _ _ _ hv)
    · rename_i p q s e
      cases h
      rw [e] at hr
      obtain ⟨b, m, e2, hv⟩ := hr.inv_rp
      exact .pure hp (by simp [execOp, hop, e2]) (.rp _ _ _ _ _ hv)
    · cases h
  · rename_i op xt x y yt hop
    refine .go hp h fun v hv => ?_
    obtain ⟨v', h1, h2⟩ := evB2_run (P := F.cx.P) (w := w) x y (R x) (R y) (fun v e => by subst e; exact ⟨rfl, rfl⟩) (fun v e => by subst e; exact ⟨rfl, rfl⟩) hv
    exact ⟨v', by simp only [execOp, hop]; exact run_value h1, h2⟩
  · rename_i op xt x hop
    refine .go hp h fun v hv => ?_
    obtain ⟨v', h1, h2⟩ := evUn_run (P := F.cx.P) (w := w) (R x) hv
    exact ⟨v', by simp only [execOp, hop]; exact run_value h1, h2⟩
  · rename_i s d x hop
    refine .go hp h fun v hv => ?_
    obtain ⟨v', h1, h2⟩ := evConv_run hp.inv (R x) hv
    exact ⟨v', by simp only [execOp, hop]; exact run_value h1, h2⟩
  · rename_i t x hop
    split at h
    · rename_i hcq
      cases h
      refine .pure hp (v' := .iface t (a.eval x)) ?_ (.iface _ _ _ (R x))
      simp only [execOp, hop]
      refine run_value ?_
      unfold concQ at hcq
      split at hcq
      · cases hcq
      · cases hcq
      · rename_i d hne hd
        cases hu : F.cx.P.underlying t with
        | none => exact absurd hu hd
        | some d =>
          cases d <;> first | exact absurd hu (hne _) | simp [Instr.makeInterface, run_underlying' F.cx.P w t _ hu]
    · cases h
  · rename_i f first cap hop
    cases h
    refine .pure hp (v' := .func (.func f) (first.map a.eval) (cap.map a.eval)) ?_ (.fn _ _ _ _ _ (rhoL_VRL htm first) (rhoL_VRL htm cap))
    simp [execOp, hop, Instr.makeFunc]
  · rename_i t x lo hi mx hop
    refine .go hp h fun v hv => ?_
    have ov : ∀ o : Option Operand, OVR G (o.map (rho fs.t)) (o.map a.eval) := fun o => by cases o with | none => trivial | some z => exact R z
    obtain ⟨v', h1, h2⟩ := evSlice3_run (P := F.cx.P) (w := w) (R x) (ov lo) (ov hi) (R mx) hv
    exact ⟨v', by simp only [execOp, hop]; exact run_value h1, h2⟩
  · rename_i t hop
    split at h
    · cases h
      obtain ⟨G', w', v', h1, h2⟩ := makeMap_run (P := F.cx.P) (i := i) (t := t) hp
      intro next Q hk
      exact wp_value (by simp only [execOp, hop]; exact run_value h1) (hk G' w' v' h2)
    · cases h
  · rename_i t x k ok hop
    split at h
    · rename_i v fp hv
      cases h
      obtain ⟨v', h1, h2⟩ := evLookup_run (P := F.cx.P) (w := w) hp.inv (R x) (R k) hv
      exact .pure hp (by simp only [execOp, hop]; exact run_value h1) h2
    · cases h
  · rename_i t x k y hop
    split at h
    · rename_i S' fp hv
      cases h
      obtain ⟨w', h1, h2⟩ := evMapUpdate_run (P := F.cx.P) (i := i) hp (R x) (R k) (R y) hv
      intro next Q hk
      exact wp_skipped (by simp only [execOp, hop]; exact run_skip h1) (hk G w' _ h2)
    · cases h
  · rename_i t x lo hi hop
    refine .go hp h fun v hv => ?_
    have ov : ∀ o : Option Operand, OVR G (o.map (rho fs.t)) (o.map a.eval) := fun o => by cases o with | none => trivial | some z => exact R z
    obtain ⟨v', h1, h2⟩ := evSlice_run (P := F.cx.P) (w := w) (R x) (ov lo) (ov hi) hv
    exact ⟨v', by simp only [execOp, hop]; exact run_value h1, h2⟩
  · rename_i s x f hop
    refine .go hp h fun v hv => ?_
    obtain ⟨v', h1, h2⟩ := evFieldAddr_run (P := F.cx.P) (w := w) (R x) hv
    exact ⟨v', by simp only [execOp, hop]; exact run_value h1, h2⟩
  · rename_i t x f hop
    refine .go hp h fun v hv => ?_
    obtain ⟨v', h1, h2⟩ := evField_run (P := F.cx.P) (w := w) (R x) hv
    exact ⟨v', by simp only [execOp, hop]; exact run_value h1, h2⟩
  · rename_i t x ix hop
    refine .go hp h fun v hv => ?_
    obtain ⟨v', h1, h2⟩ := evIndexAddr_run (P := F.cx.P) (w := w) (R x) (R ix) hv
    exact ⟨v', by simp only [execOp, hop]; exact run_value h1, h2⟩
  · rename_i t x ix hop
    refine .go hp h fun v hv => ?_
    obtain ⟨v', h1, h2⟩ := evIndex_run (P := F.cx.P) (w := w) (R x) (R ix) hv
    exact ⟨v', by simp only [execOp, hop]; exact run_value h1, h2⟩
  · rename_i x k hop
    split at h
    · rename_i vs e
      refine .go hp h fun v hv => ?_
      have hr := R x
      rw [e] at hr
      cases hx : a.eval x with
      | tuple tv =>
        rw [hx] at hr
        cases hr with
        | tup _ _ hl =>
          obtain ⟨v', h1, h2⟩ := hl.get hv
          simp at h1
          exact ⟨v', by simp only [execOp, hop, hx]; exact run_value (by simp [Instr.extract, h1]), h2⟩
      | _ => rw [hx] at hr; cases hr
    · cases h
  · rename_i f args ts hop
    have base : ∀ {r : OR}, evCallee call fs (rho fs.t f) (rhoL fs.t args) = some r → OpSound F fs G a w i o r := fun {r} h => by
      refine callee_sound hp hnu hc (R f) (rhoL_VRL htm args) h fun g first cap hfv ⟨fn, f1, f2, f3⟩ => ?_
      obtain ⟨body, hb⟩ := Option.isSome_iff_exists.1 f3
      have f2' : fn.name ≠ "runtime.NumGoroutine" := by simpa using f2
      simp [execOp, hop, resolve, hfv, Deferred.ofValue, invoke, callFunc, f1, f2', hb]
    split at h
    · obtain ⟨v, b, S', fp, fp', rfl, hv, _⟩ := evCalm_val h
      have := base hv
      exact this
    · exact base h
  · rename_i bi args ts hop
    obtain ⟨cs, hcs⟩ : ∃ cs, execOp a.eval o = builtin bi ts o.type cs (args.map a.eval) := ⟨_, by simp only [execOp, hop, resolve, pure_bind, invoke]; rfl⟩
    exact builtinQ_sound hp (rhoL_VRL htm args) h hcs
  · rename_i x hop
    split at h
    · rename_i t v e
      cases h
      have hr := R x
      rw [e] at hr
      intro next Q hk
      cases hx : a.eval x with
      | iface t' v' =>
        rw [hx] at hr
        unfold Oper.wp
        have : (execOp a.eval o).run F.cx.P w = .halt (.panic (.iface t' v')) w := by simp [execOp, hop, hx, Instr.panic]
        rw [this]
        exact hk G w _ ⟨hr, hp.inv, .refl G, hp.ext, hp.loc, rfl⟩
      | _ => rw [hx] at hr; cases hr
    · cases h
  · rename_i x xT t hop
    refine .go hp h fun v hv => ?_
    obtain ⟨v', h1, h2⟩ := evAssert_run (P := F.cx.P) (w := w) (xT := xT) (R x) hv
    exact ⟨v', by simp only [execOp, hop]; exact run_value h1, h2⟩
  · cases h
end Go.Proofs.YtcpoinfdnimanaaGreatDoor.AE
/- Steps and rows of operations: the evaluator's are the model's. No condition. -/
namespace Go.Proofs.YtcpoinfdnimanaaGreatDoor.AE
set_option linter.unusedVariables false
set_option linter.unusedSimpArgs false
open Go Go.RowKit

structure FR (F : Fix) (nt : Nat) (D : Nat → Prop) (fs : FS) (G : Gh) (a : Act) (w : World) : Prop where
  pre : Pre F fs G w
  tm : ∀ x, VR G (fs.t x) (a.tmps.getD x undef)
  nt : a.tmps.size = nt
  df : a.defers = F.dl
  nul : ∀ d v, d < F.cx.dep → G.nu d v = none
  nud : ∀ v, G.nu F.cx.dep v ≠ none → v ≤ fs.c ∨ ∃ j, D j ∧ v = fs.c + j + 1
  nue : ∀ d v, d ≠ F.cx.dep → G.nu d v = F.Ge.nu d v
  gm : Gle F.Gm G

theorem put_VR {G : Gh} {t : Nat → AV} {a : Act} {dst : Option Tmp} {v : AV} {v' : Value} (h : ∀ x, VR G (t x) (a.tmps.getD x undef)) (hv : VR G v v') (hd : ∀ d, dst = some d → d < a.tmps.size) : ∀ x, VR G (putA t dst v x) ((a.put dst v').tmps.getD x undef) := by
  intro x
  cases dst with
  | none => exact h x
  | some d =>
    have hlt := hd d rfl
    show VR G (upd d v t x) ((a.tmps.setIfInBounds d v').getD x undef)
    unfold upd
    split
    · rename_i hx
      subst hx
      simpa [Array.getD_eq_getD_getElem?, hlt] using hv
    · rename_i hx
      have := h x
      rw [Array.getD_eq_getD_getElem?] at this ⊢
      rw [Array.getElem?_setIfInBounds_ne (Ne.symm hx)]
      exact this
theorem put_size (a : Act) (dst : Option Tmp) (v : Value) : (a.put dst v).tmps.size = a.tmps.size := by
  cases dst <;> simp [Act.put]
theorem put_defers' (a : Act) (dst : Option Tmp) (v : Value) : (a.put dst v).defers = a.defers := by
  cases dst <;> rfl

theorem FR.put {F : Fix} {nt : Nat} {D : Nat → Prop} {fs : FS} {G G' : Gh} {a : Act} {w w' : World} (h : FR F nt D fs G a w) {i : Nat} {dst : Option Tmp} {v : AV} {v' : Value} {b : Nat → Nat × List AV} {S : St}
    (hd : ∀ d, dst = some d → d < nt) (hp : Post F fs.c i G b S v G' w' v') : FR F nt (fun j => D j ∨ j = i) ⟨putA fs.t dst v, b, fs.c, S⟩ G' (a.put dst v') w' where
  pre := ⟨hp.inv, hp.ext, hp.loc⟩
  tm := put_VR (fun x => (h.tm x).mono hp.le) hp.vr (by rw [h.nt]; exact hd)
  nt := by rw [put_size]; exact h.nt
  df := by rw [put_defers']; exact h.df
  nul d x hx := by
    cases hn : G'.nu d x with
    | none => rfl
    | some k =>
      have h1 := h.nul d x hx
      obtain ⟨e, _⟩ := hp.nu d x (by rw [hn, h1]; simp)
      omega
  nud x hx := by
    by_cases hc : G'.nu F.cx.dep x = G.nu F.cx.dep x
    · rw [hc] at hx
      rcases h.nud x hx with h' | ⟨j, h1, h2⟩
      · exact .inl h'
      · exact .inr ⟨j, .inl h1, h2⟩
    · exact .inr ⟨i, .inr rfl, (hp.nu _ _ hc).2⟩
  gm := h.gm.trans hp.le
  nue d x hd := by
    by_cases hc : G'.nu d x = G.nu d x
    · rw [hc]; exact h.nue d x hd
    · exact absurd (hp.nu _ _ hc).1 hd

theorem FR.drew {F : Fix} {nt : Nat} {D : Nat → Prop} {fs : FS} {G : Gh} {a : Act} {w : World} (h : FR F nt D fs G a w) : FR F nt D fs G a w.drew := ⟨h.pre.drew, h.tm, h.nt, h.df, h.nul, h.nud, h.nue, h.gm⟩
theorem FR.weak {F : Fix} {nt : Nat} {D D' : Nat → Prop} {fs : FS} {G : Gh} {a : Act} {w : World} (h : FR F nt D fs G a w) (hD : ∀ j, D j → D' j) : FR F nt D' fs G a w :=
  ⟨h.pre, h.tm, h.nt, h.df, h.nul, fun v hv => (h.nud v hv).imp id fun ⟨j, h1, h2⟩ => ⟨j, hD j h1, h2⟩, h.nue, h.gm⟩

theorem wantedA_spec {gd : Option (Nat × Bool)} {o : Oper} {ops : Array Oper} {t : Nat → AV} {G : Gh} {a : Act} {q : Bool} (hg : o.guard = gd) (htm : ∀ x, VR G (t x) (a.tmps.getD x undef)) (h : wantedA gd ops t = some q) : Region.wanted o (yielded ops a.tmps) = q := by
  unfold wantedA at h
  unfold Region.wanted
  rw [hg]
  split at h
  · cases h; rfl
  · rename_i j want
    split at h
    · rename_i d hd
      have ht := htm d
      split at h
      · rename_i b hb
        cases h
        rw [hb] at ht
        have := ht.inv_bool
        rw [Array.getD_eq_getD_getElem?] at this
        cases hh : a.tmps[d]? with
        | none => rw [hh] at this; simp [undef] at this
        | some v =>
          rw [hh] at this
          simp at this
          subst this
          simp [yielded, hd, hh]
      · rename_i hb
        cases h
        rw [hb] at ht
        have hu : a.tmps.getD d undef = .tuple #[] := by
          generalize a.tmps.getD d undef = z at ht
          cases ht; rfl
        rw [Array.getD_eq_getD_getElem?] at hu
        cases hh : a.tmps[d]? with
        | none => simp [yielded, hd, hh]
        | some v =>
          rw [hh] at hu
          simp at hu
          subst hu
          simp [yielded, hd, hh]
      · cases h
    · cases h

/-- what one step of a region gives -/
def StepOK (F : Fix) (nt : Nat) (D : Nat → Prop) (i : Nat) (P : Program) (ops : Array Oper) (a : Act) (w : World) : OutS → Prop
  | .ok fs' _ => ∀ (K : Act → World → Prop) (Q : Exit → Act → World → Prop), (∀ G' a' w', FR F nt (fun j => D j ∨ j = i) fs' G' a' w' → K a' w') → wpOp P ops Q i K a w
  | .pan v fs' => ∀ (K : Act → World → Prop) (Q : Exit → Act → World → Prop), (∀ G' w' v', FR F nt D fs' G' a w' → VR G' v v' → Q (.panic [{ v := v', recovered := false }]) a w') → wpOp P ops Q i K a w

theorem stepA_sound {F : Fix} {nt : Nat} {D : Nat → Prop} {call : Cal} {fs : FS} {G : Gh} {a : Act} {w : World} {ops : Array Oper} {i : Nat} {o : Oper} (hi : ops[i]? = some o) (h : FR F nt D fs G a w) (hD : ¬ D i)
    (hd : ∀ d, o.dst = some d → d < nt) (hc : CalOK F.cx.P call F.cx.dep) {r : OutS} (hs : stepA F.cx call ops i o fs = some r) : StepOK F nt D i F.cx.P ops a w r := by
  have hn : G.nu F.cx.dep (fs.c + i + 1) = none := by
    cases hn : G.nu F.cx.dep (fs.c + i + 1) with
    | none => rfl
    | some k =>
      rcases h.nud (fs.c + i + 1) (by rw [hn]; simp) with h' | ⟨j, h1, h2⟩
      · omega
      · have : j = i := by omega
        subst this
        exact absurd h1 hD
  unfold stepA at hs
  split at hs
  · rename_i hw
    have hw' := wantedA_spec rfl h.tm hw
    split at hs
    · rename_i v b S fp hev
      cases hs
      intro K Q hk
      unfold wpOp
      simp only [hi, hw', if_true]
      exact .inl (evOp_sound h.pre h.tm hn h.nul hc hev K Q fun G' w' v' hp => hk G' _ w' (h.put hd hp))
    · rename_i v S hev
      cases hs
      intro K Q hk
      unfold wpOp
      simp only [hi, hw', if_true]
      exact .inl (evOp_sound h.pre h.tm hn h.nul hc hev K Q fun G' w' v' hp => hk G' w' v'
        ⟨⟨hp.inv, hp.ext, hp.loc⟩, fun x => (h.tm x).mono hp.le, h.nt, h.df, fun d x hx => by rw [hp.nu]; exact h.nul d x hx, fun x hx => h.nud x (by rw [← hp.nu]; exact hx), fun d x hx => by rw [hp.nu]; exact h.nue d x hx, h.gm.trans hp.le⟩ hp.vr)
    · cases hs
  · rename_i hw
    have hw' := wantedA_spec rfl h.tm hw
    cases hs
    intro K Q hk
    unfold wpOp
    simp only [hi, hw', Bool.false_eq_true, if_false]
    exact hk G _ w (h.put (i := i) (v := .undef) (v' := undef) hd (Post.same h.pre .undef))
  · cases hs

/-- what a row of operations gives -/
def SeqOK (F : Fix) (nt : Nat) (D : Nat → Prop) (l : List Nat) (P : Program) (ops : Array Oper) (a : Act) (w : World) : OutS → Prop
  | .ok fs' _ => ∀ (Q : Exit → Act → World → Prop), (∀ G' a' w', FR F nt (fun j => D j ∨ j ∈ l) fs' G' a' w' → Q .normal a' w') → wpOps P ops Q l a w
  | .pan v fs' => ∀ (Q : Exit → Act → World → Prop), (∀ D' G' a' w' v', FR F nt D' fs' G' a' w' → VR G' v v' → Q (.panic [{ v := v', recovered := false }]) a' w') → wpOps P ops Q l a w

theorem seqA_sound {F : Fix} {nt : Nat} {call : Cal} {ops : Array Oper} (hd : ∀ (i : Nat) o, ops[i]? = some o → ∀ d, o.dst = some d → d < nt) (hc : CalOK F.cx.P call F.cx.dep) : ∀ (l : List Nat) (D : Nat → Prop) (fs : FS) (G : Gh) (a : Act) (w : World), l.Nodup → (∀ i ∈ l, ¬ D i) →
    FR F nt D fs G a w → ∀ r, seqA F.cx call ops l fs = some r → SeqOK F nt D l F.cx.P ops a w r
  | [], D, fs, G, a, w, _, _, h, r, hs => by
    cases hs
    intro Q hq
    exact hq G a w (h.weak fun j hj => .inl hj)
  | i :: l, D, fs, G, a, w, hn, hD, h, r, hs => by
    simp only [seqA] at hs
    split at hs
    · cases hs
    · rename_i o hi
      have hnd := List.nodup_cons.1 hn
      cases hst : stepA F.cx call ops i o fs with
      | none => rw [hst] at hs; cases hs
      | some s =>
        rw [hst] at hs
        have hok := stepA_sound hi h (hD i (by simp)) (hd i o hi) hc hst
        cases s with
        | ok fs' fp =>
          simp only at hs
          have ih := fun G' a' w' h' => seqA_sound hd hc l (fun j => D j ∨ j = i) fs' G' a' w' hnd.2 (fun j hj hj' => by
            rcases hj' with h1 | rfl
            · exact hD j (by simp [hj]) h1
            · exact hnd.1 hj) h' r hs
          cases r with
          | ok fs'' fp' =>
            intro Q hq
            rw [wpOps_cons]
            refine hok _ Q fun G' a' w' h' => ih G' a' w' h' Q fun G'' a'' w'' h'' => hq G'' a'' w'' (h''.weak fun j hj => ?_)
            rcases hj with (h1 | rfl) | h1
            · exact .inl h1
            · exact .inr (by simp)
            · exact .inr (by simp [h1])
          | pan v fs'' =>
            intro Q hq
            rw [wpOps_cons]
            exact hok _ Q fun G' a' w' h' => ih G' a' w' h' Q hq
        | pan v fs' =>
          cases hs
          intro Q hq
          rw [wpOps_cons]
          exact hok _ Q fun G' w' v' h' hv => hq D G' a w' v' h' hv

theorem lexA_seqA {cx : Ctx} {call : Cal} {ops : Array Oper} : ∀ (l : List Oper) (i : Nat) (fs : FS), (∀ j, l[j]? = ops[i + j]?) → lexA cx call ops i l fs = seqA cx call ops (List.range' i l.length) fs
  | [], i, fs, _ => rfl
  | o :: l, i, fs, h => by
    have h0 : ops[i]? = some o := by simpa using (h 0).symm
    rw [lexA, List.length_cons, List.range'_succ, seqA, h0]
    simp only
    have ih := fun fs' => lexA_seqA (cx := cx) (call := call) l (i + 1) fs' fun j => by
      have := h (j + 1)
      simpa [Nat.add_assoc, Nat.add_comm 1 j] using this
    cases stepA cx call ops i o fs with
    | none => rfl
    | some s => cases s with
      | ok fs' fp => exact ih fs'
      | pan v fs' => rfl
theorem lexA_range {cx : Ctx} {call : Cal} {ops : Array Oper} (fs : FS) : lexA cx call ops 0 ops.toList fs = seqA cx call ops (List.range ops.size) fs := by
  rw [lexA_seqA ops.toList 0 fs (by simp), List.range_eq_range']
  simp
end Go.Proofs.YtcpoinfdnimanaaGreatDoor.AE
