/- The evaluator's plain operations are those of the model. No condition. -/
import Derived.Test.YtemggoaefohliaaAeD
import Derived.Laws.StructEq
import Derived.Laws.Strings
import Derived.Laws.Entries
import Derived.Laws.BytesString
namespace Go.Proofs.Ytemggoaefohliaa.AE
set_option linter.unusedVariables false
set_option linter.unusedSimpArgs false
open Go Go.RowKit

theorem run_loadCells_zero {P : Program} (a : Addr) (w : World) : (loadCells a 0).run P w = .ok #[] w := by
  simp [loadCells, loadCellsFrom]

theorem rho_VR {G : Gh} {t : Nat → AV} {a : Act} (h : ∀ x, VR G (t x) (a.tmps.getD x undef)) (o : Operand) : VR G (rho t o) (a.eval o) := by
  cases o with
  | tmp x => exact h x
  | const v => exact ofC_VR G v
  | global g => exact .junk _
  | func f => exact .fn f [] [] #[] #[] .nil .nil

theorem VR.inv_int {G : Gh} {k : IntKind} {n : Int} {v : Value} (h : VR G (.int k n) v) : v = .int k n := by cases h; rfl
theorem VR.inv_bool {G : Gh} {b : Bool} {v : Value} (h : VR G (.bool b) v) : v = .bool b := by cases h; rfl
theorem VR.inv_str {G : Gh} {s : List UInt8} {v : Value} (h : VR G (.str s) v) : ∃ bs : ByteArray, v = .string bs ∧ bs.data.toList = s := by cases h; exact ⟨_, rfl, rfl⟩
theorem VR.inv_loc {G : Gh} {dep d ver o : Nat} {v : Value} (h : VR G (.loc dep d ver o) v) : ∃ b, v = .pointer (some ⟨b, o, none⟩) ∧ G.nu dep ver = some b := by
  cases h with | loc _ _ _ _ b hb => exact ⟨b, rfl, hb⟩
theorem VR.inv_ptr {G : Gh} {id o : Nat} {v : Value} (h : VR G (.ptr id o) v) : ∃ b, v = .pointer (some ⟨b, o, none⟩) ∧ G.phi id = some b := by
  cases h with | ptr _ _ b hb => exact ⟨b, rfl, hb⟩
theorem VR.inv_ref {G : Gh} {cs : List AV} {v : Value} (h : VR G (.ref cs) v) : ∃ b o, v = .pointer (some ⟨b, o, none⟩) ∧ VRI G cs b o := by
  cases h with | ref _ b o hb => exact ⟨b, o, rfl, hb⟩
theorem str_VR {G : Gh} {s : List UInt8} {bs : ByteArray} (h : bs.data.toList = s) : VR G (.str s) (.string bs) := by subst h; exact .str bs

theorem evBin_run {P : Program} {G : Gh} {w : World} {op : BinOp} {t : TypeId} {x y r : AV} {a b : Value} (ox oy : Operand) (hx : VR G x a) (hy : VR G y b) (h : evBin (boolQ P t) op x y = some r) :
    ∃ v, (do eqGuard op t ox oy a b; binOp op t a b : Sem Value).run P w = .ok v w ∧ VR G r v := by
  unfold evBin at h
  split at h
  · -- numbers
    rename_i k m k' n
    rw [hx.inv_int, hy.inv_int]
    have g : ∀ u : World, (eqGuard op t ox oy (.int k m) (.int k' n)).run P u = .ok () u := fun u => by
      unfold eqGuard; cases op <;> rfl
    simp only [Sem.run_bind, g, Result.andThen_ok]
    split at h
    · split at h
      · cases h
        rename_i h0
        refine ⟨_, ?_, .int _ _⟩
        simp [binOp, Op.shift, show ¬ n < 0 by omega]
      · cases h
    · split at h
      · cases h
        rename_i h0
        refine ⟨_, ?_, .int _ _⟩
        simp [binOp, Op.shift, show ¬ n < 0 by omega]
      · cases h
    · rename_i hs1 hs2
      split at h
      · rename_i hk
        subst hk
        split at h
        case h_4 =>
          split at h
          · cases h
          · cases h; rename_i hn; exact ⟨_, by simp [binOp, Op.intDiv, hn], .int _ _⟩
        case h_5 =>
          split at h
          · cases h
          · cases h; rename_i hn; exact ⟨_, by simp [binOp, Op.intDiv, hn], .int _ _⟩
        all_goals first
          | (cases h; exact ⟨_, by simp [binOp, Op.intArith, Op.intBits, Op.intCmp] <;> rfl, by constructor⟩)
          | cases h
      · cases h
  · -- truths
    rename_i m n
    rw [hx.inv_bool, hy.inv_bool]
    have g : ∀ u : World, (eqGuard op t ox oy (.bool m) (.bool n)).run P u = .ok () u := fun u => by
      unfold eqGuard; cases op <;> rfl
    simp only [Sem.run_bind, g, Result.andThen_ok]
    split at h
    · rename_i hb
      have hu : P.underlying t = some .bool := by
        unfold boolQ at hb
        split at hb
        · assumption
        · cases hb
      have he : (Op.equal t (.bool m) (.bool n)).run P w = .ok (m == n) w := run_equalIn_bool' (P := P) w 9999 t m n hu
      split at h
      · cases h; exact ⟨_, by simp [binOp, he], .bool _⟩
      · cases h; exact ⟨_, by simp [binOp, he], .bool _⟩
      · cases h
    · cases h
  · -- texts
    rename_i m n
    obtain ⟨p, rfl, rfl⟩ := hx.inv_str
    obtain ⟨q, rfl, rfl⟩ := hy.inv_str
    have g : ∀ u : World, (eqGuard op t ox oy (.string p) (.string q)).run P u = .ok () u := fun u => by
      unfold eqGuard; cases op <;> rfl
    have hp : p.data.toList.length = p.size := by rw [Array.length_toList]; rfl
    have hq : q.data.toList.length = q.size := by rw [Array.length_toList]; rfl
    simp only [Sem.run_bind, g, Result.andThen_ok]
    split at h
    · split at h
      · cases h
        rename_i hle
        refine ⟨.string (p ++ q), ?_, str_VR (by simp)⟩
        have : ¬ ((p.size + q.size : Nat) : Int) > IntKind.i64.max := by
          rw [show IntKind.i64.max = 9223372036854775807 by rfl]; omega
        simp only [binOp, Op.stringOp, this, if_false, Sem.run_pure]
      · cases h
    all_goals first
      | (cases h; exact ⟨_, by simp only [binOp, Op.stringOp, ByteArray.toList_eq, Sem.run_pure] <;> rfl, .bool _⟩)
      | cases h
  · cases h

theorem evUn_run {P : Program} {G : Gh} {w : World} {op : UnOp} {x r : AV} {a : Value} (hx : VR G x a) (h : evUn op x = some r) : ∃ v, (Op.unary op a).run P w = .ok v w ∧ VR G r v := by
  unfold evUn at h
  split at h
  · cases h; rw [hx.inv_int]; exact ⟨_, rfl, .int _ _⟩
  · cases h; rw [hx.inv_bool]; exact ⟨_, rfl, .bool _⟩
  · cases h

theorem evLen_run {P : Program} {G : Gh} {w : World} {t u : TypeId} {x r : AV} {a : Value} {ts : Array TypeId} (ht : ts[0]? = some t) {l : Array Value} (hl : l[0]? = some a) (hx : VR G x a) (h : evLen P t x = some r) :
    ∃ v, (Builtin.len_ ts u l).run P w = .ok v w ∧ VR G r v := by
  unfold evLen at h
  split at h
  · rename_i s
    obtain ⟨p, rfl, rfl⟩ := hx.inv_str
    split at h
    · rename_i hs
      cases h
      have hu : P.underlying t = some .string := by
        unfold strQ at hs; split at hs
        · assumption
        · cases hs
      refine ⟨.int .i64 p.size, ?_, ?_⟩
      · simp [Builtin.len_, ht, hl, run_underlying' P w t _ hu, goInt]
      · rw [show (p.data.toList.length : Int) = (p.size : Int) by rw [Array.length_toList]; rfl]
        exact .int _ _
    · cases h
  · rename_i es tok
    split at h
    · rename_i e he
      cases h
      have hu : P.underlying t = some (.slice e) := by
        unfold sliceQ at he; split at he
        · cases he; assumption
        · cases he
      cases hx with
      | nils _ _ _ => exact ⟨.int .i64 0, by simp [Builtin.len_, ht, hl, run_underlying' P w t _ hu, goInt], .int _ _⟩
      | slice _ _ fl b o cap sz h1 h2 h3 h4 h5 => exact ⟨.int .i64 es.length, by simp [Builtin.len_, ht, hl, run_underlying' P w t _ hu, goInt], .int _ _⟩
    · cases h
  · cases h

theorem evMin2_run {P : Program} {G : Gh} {w : World} {x y r : AV} {a b : Value} (hx : VR G x a) (hy : VR G y b) (h : evMin2 x y = some r) : ∃ v, (Builtin.min2 a b).run P w = .ok v w ∧ VR G r v := by
  unfold evMin2 at h
  split at h
  · split at h
    · rename_i hk
      subst hk
      cases h
      rw [hx.inv_int, hy.inv_int]
      exact ⟨_, rfl, .int _ _⟩
    · cases h
  · cases h
theorem evMax2_run {P : Program} {G : Gh} {w : World} {x y r : AV} {a b : Value} (hx : VR G x a) (hy : VR G y b) (h : evMax2 x y = some r) : ∃ v, (Builtin.max2 a b).run P w = .ok v w ∧ VR G r v := by
  unfold evMax2 at h
  split at h
  · split at h
    · rename_i hk
      subst hk
      cases h
      rw [hx.inv_int, hy.inv_int]
      exact ⟨_, rfl, .int _ _⟩
    · cases h
  · cases h

theorem intQ_spec {P : Program} {t : TypeId} {k : IntKind} (h : intQ P t = some k) : P.underlying t = some (.int k) := by
  unfold intQ at h; split at h
  · cases h; assumption
  · cases h
theorem strQ_spec {P : Program} {t : TypeId} (h : strQ P t = true) : P.underlying t = some .string := by
  unfold strQ at h; split at h
  · assumption
  · cases h
theorem sliceQ_spec {P : Program} {t e : TypeId} (h : sliceQ P t = some e) : P.underlying t = some (.slice e) := by
  unfold sliceQ at h; split at h
  · cases h; assumption
  · cases h
theorem arrQ_spec {P : Program} {t e : TypeId} {n : Nat} (h : arrQ P t = some (n, e)) : P.underlying t = some (.array n e) := by
  unfold arrQ at h; split at h
  · cases h; assumption
  · cases h

/-- bytes in a row -/
theorem bytesOf_vals {G : Gh} {es : List AV} {l : List UInt8} (h : bytesOf es = some l) : flatQ es = some es ∧ l.length = es.length ∧ ∀ vs, VRL G es vs → ∃ ns : List Int, vs = ns.map (Value.int .u8) ∧ ns.map (fun n => UInt8.ofNat n.toNat) = l := by
  induction es generalizing l with
  | nil =>
    cases h
    exact ⟨rfl, rfl, fun vs hv => by cases hv; exact ⟨[], rfl, rfl⟩⟩
  | cons e es ih =>
    cases e <;> (try (simp [bytesOf] at h; done))
    rename_i k n
    cases k <;> (try (simp [bytesOf] at h; done))
    simp only [bytesOf] at h
    split at h
    · rename_i r hr
      cases h
      obtain ⟨h1, h2, h3⟩ := ih hr
      refine ⟨by simp [flatQ, AV.cells?, h1], by simp [h2], fun vs hv => ?_⟩
      cases hv with
      | cons _ v _ m hv hm =>
        obtain ⟨ns, rfl, rfl⟩ := h3 m hm
        rw [hv.inv_int]
        exact ⟨n :: ns, rfl, rfl⟩
    · cases h

theorem foldl_push : ∀ (ns : List Int) (s : ByteArray), (ns.foldl (fun r n => r.push (UInt8.ofNat n.toNat)) s).data.toList = s.data.toList ++ ns.map (fun n => UInt8.ofNat n.toNat)
  | [], s => by simp
  | n :: ns, s => by
    rw [List.foldl_cons, foldl_push ns]
    simp

theorem flat_bytes {es : List AV} (h : flatQ es = some es) {w0 : World} {B : Nat} {G : Gh} {S : St} {w : World} (hi : Inv w0 B G S w) {fl : List AV} {b o : Nat} (hf : flatQ es = some fl) (hv : VRI G fl b o) :
    ∃ vs, VRL G es vs ∧ ∀ j v, vs[j]? = some v → w.cell? ⟨b, o + j, none⟩ = some v := by
  rw [h] at hf
  cases hf
  obtain ⟨vs, h1, h2⟩ := hv.vals
  exact ⟨vs, h1, fun j v hj => hi.imm _ _ _ (h2 j v hj)⟩

theorem evConv_run {P : Program} {w0 : World} {B : Nat} {G : Gh} {S : St} {w : World} (hi : Inv w0 B G S w) {s d : TypeId} {x r : AV} {a : Value} (hx : VR G x a) (h : evConv P s d x = some r) :
    ∃ v, (convert s d a).run P w = .ok v w ∧ VR G r v := by
  unfold evConv at h
  split at h
  · rename_i k n
    split at h
    · rename_i k1 k2 h1 h2
      cases h
      rw [hx.inv_int]
      exact ⟨_, by simp [convert, run_underlying' P w s _ (intQ_spec h1), run_underlying' P w d _ (intQ_spec h2), Conv.intToInt], .int _ _⟩
    · cases h
  · rename_i l
    split at h
    · rename_i hc
      cases h
      obtain ⟨p, rfl, rfl⟩ := hx.inv_str
      exact ⟨_, by simp [convert, run_underlying' P w s _ (strQ_spec hc.1), run_underlying' P w d _ (strQ_spec hc.2)], .str _⟩
    · cases h
  · rename_i es tok
    split at h
    · rename_i e he
      split at h
      · rename_i hc
        split at h
        · rename_i l hl
          cases h
          obtain ⟨h1, h2, h3⟩ := bytesOf_vals (G := G) hl
          have hs := sliceQ_spec he
          have hd := strQ_spec hc.2
          have hu := intQ_spec hc.1
          cases hx with
          | nils _ ad _ =>
            simp [bytesOf] at hl
            subst hl
            refine ⟨.string .empty, ?_, str_VR rfl⟩
            rw [run_convert_bytes_string w s d e ad 0 0 hs hu hd]
            cases ad with
            | none => rfl
            | some a => simp [Conv.bytesToString, run_loadCells_zero]
          | slice _ _ fl b o cap sz k1 k2 k3 k4 k5 =>
            obtain ⟨vs, v1, v2⟩ := flat_bytes h1 hi k2 k3
            obtain ⟨ns, rfl, rfl⟩ := h3 vs v1
            have hlen := v1.length
            rw [run_convert_bytes_string w s d e _ _ _ hs hu hd]
            have hc := run_loadCells_at P w b o _ v2
            rw [hlen] at hc
            exact ⟨_, run_bytesToString w ⟨b, o, none⟩ es.length cap ns hc, str_VR (by rw [foldl_push]; rfl)⟩
        · cases h
      · cases h
    · cases h
  · cases h

theorem fieldQ_spec {P : Program} {t : TypeId} {f off sz : Nat} {ag : Bool} (h : fieldQ P t f = some (off, sz, ag)) :
    ∃ fs fd, P.underlying t = some (.struct fs) ∧ fs[f]? = some fd ∧ (P.underlying fd.type).isSome ∧ P.cellsOf fd.type = sz ∧ sz ≠ 0 ∧ fd.offset = off ∧ aggQ P fd.type = ag := by
  unfold fieldQ at h
  split at h
  · rename_i fs hu
    split at h
    · rename_i fd hf
      split at h
      · rename_i hc
        cases h
        exact ⟨fs, fd, hu, hf, hc.1, rfl, hc.2, rfl, rfl⟩
      · cases h
    · cases h
  · cases h

theorem run_part {P : Program} {G : Gh} {w : World} {t : TypeId} {cs : List AV} {vs : Array Value} {off : Nat} {r : AV} (hu : (P.underlying t).isSome) (hv : VRL G cs vs.toList)
    (h : rdc (aggQ P t) (P.cellsOf t) (cs.drop off) = some r) : ∃ v, (part t vs off).run P w = .ok v w ∧ VR G r v := by
  obtain ⟨i, hi⟩ := info_of_underlying hu
  unfold rdc at h
  unfold part
  simp only [Sem.run_bind, run_isAgg' P w t hu, Result.andThen_ok]
  cases ha : aggQ P t with
  | true =>
    simp only [ha, if_true] at h
    split at h
    · cases h
      simp only [if_true, Sem.run_bind, run_sizeOf' P w t i hi, Result.andThen_ok, Sem.run_pure]
      refine ⟨_, rfl, .agg _ _ ?_⟩
      have := (hv.drop off).take (P.cellsOf t)
      simpa [Array.toList_extract, List.extract_eq_take_drop, List.take_drop] using this
    · cases h
  | false =>
    simp only [ha, Bool.false_eq_true, if_false] at h
    simp at h
    obtain ⟨v, h1, h2⟩ := hv.get h
    simp at h1
    exact ⟨v, by simp [h1], h2⟩

theorem evField_run {P : Program} {G : Gh} {w : World} {t : TypeId} {x r : AV} {a : Value} {f : Nat} (hx : VR G x a) (h : evField P t x f = some r) : ∃ v, (Instr.field t a f).run P w = .ok v w ∧ VR G r v := by
  unfold evField at h
  split at h
  · rename_i off sz ag cs hf
    obtain ⟨fs, fd, h1, h2, h3, h4, h5, h6, h7⟩ := fieldQ_spec hf
    cases hx with
    | agg _ vs hv =>
      subst h4 h6 h7
      obtain ⟨v, e1, e2⟩ := run_part (P := P) (w := w) h3 hv h
      exact ⟨v, by simp [Instr.field, run_underlying' P w t _ h1, h2, asAgg, e1], e2⟩
  · cases h

theorem evFieldAddr_run {P : Program} {G : Gh} {w : World} {t : TypeId} {x r : AV} {a : Value} {f : Nat} (hx : VR G x a) (h : evFieldAddr P t x f = some r) : ∃ v, (Instr.fieldAt t a f).run P w = .ok v w ∧ VR G r v := by
  unfold evFieldAddr at h
  split at h
  · rename_i off sz ag hf
    obtain ⟨fs, fd, h1, h2, h3, h4, h5, h6, h7⟩ := fieldQ_spec hf
    obtain ⟨i, hi⟩ := info_of_underlying h3
    have run : ∀ b o, (Instr.fieldAt t (.pointer (some ⟨b, o, none⟩)) f).run P w = .ok (.pointer (some ⟨b, o + off, none⟩)) w := fun b o => by
      simp [Instr.fieldAt, run_underlying' P w t _ h1, h2, Instr.sureAddr, fieldPlace, run_sizeOf' P w fd.type i hi, h4, h5, h6, add_none]
    split at h
    · cases h
      obtain ⟨b, o, rfl, hv⟩ := hx.inv_ref
      exact ⟨_, run b o, .ref _ _ _ (hv.drop' off)⟩
    · cases h
      obtain ⟨b, rfl, hb⟩ := hx.inv_loc
      exact ⟨_, run b _, .loc _ _ _ _ _ hb⟩
    · cases h
      obtain ⟨b, rfl, hb⟩ := hx.inv_ptr
      exact ⟨_, run b _, .ptr _ _ _ hb⟩
    · cases h
  · cases h

theorem evIndex_run {P : Program} {G : Gh} {w : World} {t : TypeId} {x i r : AV} {a j : Value} (hx : VR G x a) (hj : VR G i j) (h : evIndex P t x i = some r) : ∃ v, (Instr.index t a j).run P w = .ok v w ∧ VR G r v := by
  unfold evIndex at h
  split at h
  · rename_i k n
    rw [hj.inv_int]
    split at h
    · rename_i s
      obtain ⟨p, rfl, rfl⟩ := hx.inv_str
      split at h
      · rename_i hc
        split at h
        · rename_i b hb
          cases h
          refine ⟨.int .u8 b.toNat, ?_, .int _ _⟩
          have e : p[n.toNat]? = some b := by
            have hlt : n.toNat < p.data.toList.length := (List.getElem?_eq_some_iff.1 hb).1
            have hlt' : n.toNat < p.size := by rw [Array.length_toList] at hlt; exact hlt
            rw [getElem?_pos p n.toNat hlt']
            congr 1
            have := (List.getElem?_eq_some_iff.1 hb).2
            rw [← this]
            simp [ByteArray.getElem_eq_getElem_data]
          simp [Instr.index, asIntOf, run_underlying' P w t _ (strQ_spec hc.1), hc.2, e]
        · cases h
      · cases h
    · rename_i cs
      cases hx with
      | agg _ vs hv =>
        split at h
        · rename_i len e he
          split at h
          · rename_i hc
            obtain ⟨ii, hii⟩ := info_of_underlying hc.2.2
            obtain ⟨v, e1, e2⟩ := run_part (P := P) (w := w) hc.2.2 hv h
            exact ⟨v, by simp [Instr.index, asIntOf, run_underlying' P w t _ (arrQ_spec he), hc.1, hc.2.1, run_sizeOf' P w e ii hii, e1], e2⟩
          · cases h
        · cases h
    · cases h
  · cases h

theorem nth_spec {l : List AV} {n : Int} {a : AV} (h : nth l n = some a) : 0 ≤ n ∧ l[n.toNat]? = some a := by
  unfold nth at h; split at h
  · exact ⟨‹_›, h⟩
  · cases h

theorem evIndexAddr_run {P : Program} {G : Gh} {w : World} {t : TypeId} {x i r : AV} {a j : Value} (hx : VR G x a) (hj : VR G i j) (h : evIndexAddr P t x i = some r) : ∃ v, (Instr.indexAt t a j).run P w = .ok v w ∧ VR G r v := by
  unfold evIndexAddr at h
  split at h
  · rename_i k n
    rw [hj.inv_int]
    split at h
    · rename_i es tok
      split at h
      · rename_i e he
        split at h
        · rename_i v hv
          split at h
          · rename_i cs hcs
            split at h
            · rename_i hc
              cases h
              obtain ⟨h0, hn⟩ := nth_spec hv
              obtain ⟨ii, hii⟩ := Option.isSome_iff_exists.1 hc.2
              have hlt := (List.getElem?_eq_some_iff.1 hn).1
              cases hx with
              | nils _ _ _ => simp at hlt
              | slice _ _ fl b o cap sz k1 k2 k3 k4 k5 =>
                have hsz : sz = P.cellsOf e := by
                  obtain ⟨c, c1, c2⟩ := sizesOk_mem.1 k5 v (List.mem_of_getElem? hn)
                  rw [hcs] at c1; cases c1; omega
                subst hsz
                refine ⟨_, ?_, .ref _ _ _ (VRI.elem k2 k5 k3 hn hcs)⟩
                have hn2 : n < (es.length : Int) := by omega
                simp [Instr.indexAt, asIntOf, run_underlying' P w t _ (sliceQ_spec he), h0, hn2, run_sizeOf' P w e ii hii, add_none]
            · cases h
          · cases h
        · cases h
      · cases h
    · split at h
      · rename_i len e he
        split at h
        · rename_i hc
          obtain ⟨ii, hii⟩ := Option.isSome_iff_exists.1 hc.2.2
          have run : ∀ b o, (Instr.indexAt t (.pointer (some ⟨b, o, none⟩)) (.int k n)).run P w = .ok (.pointer (some ⟨b, o + n.toNat * P.cellsOf e, none⟩)) w := fun b o => by
            simp [Instr.indexAt, asIntOf, run_underlying' P w t _ (arrQ_spec he), hc.1, hc.2.1, run_sizeOf' P w e ii hii, add_none, Instr.sureAddr]
          split at h
          · cases h
            obtain ⟨b, o, rfl, hv⟩ := hx.inv_ref
            exact ⟨_, run b o, .ref _ _ _ (hv.drop' _)⟩
          · cases h
            obtain ⟨b, rfl, hb⟩ := hx.inv_loc
            exact ⟨_, run b _, .loc _ _ _ _ _ hb⟩
          · cases h
            obtain ⟨b, rfl, hb⟩ := hx.inv_ptr
            exact ⟨_, run b _, .ptr _ _ _ hb⟩
          · cases h
        · cases h
      · cases h
  · cases h

theorem sizesOk_take {n k : Nat} {l : List AV} (h : sizesOk n l = true) : sizesOk n (l.take k) = true :=
  sizesOk_mem.2 fun e he => sizesOk_mem.1 h e (List.mem_of_mem_take he)
theorem sizesOk_drop {n k : Nat} {l : List AV} (h : sizesOk n l = true) : sizesOk n (l.drop k) = true :=
  sizesOk_mem.2 fun e he => sizesOk_mem.1 h e (List.mem_of_mem_drop he)
end Go.Proofs.Ytemggoaefohliaa.AE
