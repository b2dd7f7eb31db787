/- Joined: ExA, JoinX, PtA, PtB, PtC, PtD, PtE, PtF, PtG, PtH, PtI. No condition beyond those of its lemmas. -/
import Derived.Test.YtemggoaefohliaaRows
import Derived.Test.YtemggoaefohliaaFwB
import Derived.Test.YtemggoaefohliaaBulk
import Derived.KernelRfl
import Derived.Test.YtemggoaefohliaaShelf
/- An expression: its types, what it is to the evaluator, what an input of it reads as. No condition. -/
namespace Go.Proofs.Ytemggoaefohliaa.EX
set_option linter.unusedVariables false
set_option linter.unusedSimpArgs false
open Go AE
open Go.ChangeShapes Go.WideShapes Go.RowKit
set_option maxRecDepth 100000

theorem c24 : Try.prog.cellsOf 24 = 6 := by kernel_rfl
theorem c22 : Try.prog.cellsOf 22 = 1 := by kernel_rfl
theorem c3 : Try.prog.cellsOf 3 = 1 := by kernel_rfl
theorem c2 : Try.prog.cellsOf 2 = 1 := by kernel_rfl
theorem a24 : aggQ Try.prog 24 = true := by kernel_rfl
theorem a22 : aggQ Try.prog 22 = false := by kernel_rfl
theorem a3 : aggQ Try.prog 3 = false := by kernel_rfl
theorem a2 : aggQ Try.prog 2 = false := by kernel_rfl
theorem k24 : knownQ Try.prog 24 = true := by kernel_rfl
theorem k22 : knownQ Try.prog 22 = true := by kernel_rfl
theorem k3 : knownQ Try.prog 3 = true := by kernel_rfl
theorem k2 : knownQ Try.prog 2 = true := by kernel_rfl
theorem fq0 : fieldQ Try.prog 24 0 = some (0, 1, false) := by kernel_rfl
theorem fq4 : fieldQ Try.prog 24 4 = some (4, 1, false) := by kernel_rfl
theorem fq5 : fieldQ Try.prog 24 5 = some (5, 1, false) := by kernel_rfl
theorem sq22 : sliceQ Try.prog 22 = some 24 := by kernel_rfl
theorem z24 : zeroQ Try.prog 24 = some [.int .i64 0, .str [], .int .i64 0, .int .i64 0, .int .i64 0, .slice [] .clip] := by kernel_rfl
theorem z3 : zeroQ Try.prog 3 = some [.int .i64 0] := by kernel_rfl
theorem z2 : zeroQ Try.prog 2 = some [.int .i64 0] := by kernel_rfl
theorem iq3 : intQ Try.prog 3 = some .i64 := by kernel_rfl
theorem bq3 : boolQ Try.prog 3 = false := by kernel_rfl
theorem bq4 : boolQ Try.prog 4 = true := by kernel_rfl
theorem bq2 : boolQ Try.prog 2 = false := by kernel_rfl

attribute [go_sem] c24 c22 c3 c2 a24 a22 a3 a2 k24 k22 k3 k2 fq0 fq4 fq5 sq22 z24 z3 z2 iq3 bq3 bq4 bq2

theorem i3 : (Try.prog.info? 3).isSome = true := by kernel_rfl
theorem i24 : (Try.prog.info? 24).isSome = true := by kernel_rfl
theorem i2 : (Try.prog.info? 2).isSome = true := by kernel_rfl
theorem ii24 : ∃ x, Try.prog.info? 24 = some x := Option.isSome_iff_exists.1 i24

theorem c9 : Try.prog.cellsOf 9 = 1 := by kernel_rfl
theorem u2 : Try.prog.underlying 2 = some (.int .i64) := by kernel_rfl
theorem u3 : Try.prog.underlying 3 = some (.int .i64) := by kernel_rfl
theorem u9 : Try.prog.underlying 9 = some .string := by kernel_rfl
theorem u22 : Try.prog.underlying 22 = some (.slice 24) := by kernel_rfl

/-- an expression -/
inductive X where
  | mk (k : Int) (nm : List UInt8) (n lo hi : Int) (tok : Bool) (kids : List X)
def tokOf : Bool → Tok
  | true => .clip
  | false => .non
mutual
def X.emb : X → AV
  | .mk k nm n lo hi tok kids => .agg [.int .i64 k, .str nm, .int .i64 n, .int .i64 lo, .int .i64 hi, .slice (embL kids) (tokOf tok)]
def embL : List X → List AV
  | [] => []
  | x :: l => x.emb :: embL l
end
mutual
def X.size : X → Nat
  | .mk _ _ _ _ _ _ kids => 1 + sizeL kids
def sizeL : List X → Nat
  | [] => 0
  | x :: l => x.size + sizeL l
end
theorem embL_map : ∀ l : List X, embL l = l.map X.emb
  | [] => rfl
  | x :: l => by simp [embL, embL_map l]
theorem size_pos (x : X) : 1 ≤ x.size := by
  cases x; simp [X.size]
theorem sizeL_mem {x : X} : ∀ {l : List X}, x ∈ l → x.size ≤ sizeL l
  | y :: l, h => by
    rcases List.mem_cons.1 h with rfl | h
    · simp [sizeL]
    · have := sizeL_mem h; simp [sizeL]; omega
theorem sizeL_length : ∀ l : List X, l.length ≤ sizeL l
  | [] => by simp [sizeL]
  | x :: l => by have := sizeL_length l; have := size_pos x; simp [sizeL]; omega
mutual
theorem sealed_emb : ∀ x : X, x.emb.sealed = true
  | .mk _ _ _ _ _ _ kids => by simp [X.emb, AV.sealed, AV.sealedL, sealed_embL kids]
theorem sealed_embL : ∀ l : List X, AV.sealedL (embL l) = true
  | [] => rfl
  | x :: l => by simp [embL, AV.sealedL, sealed_emb x, sealed_embL l]
end

theorem wrap64 (n : Int) (h : -9223372036854775808 ≤ n ∧ n < 9223372036854775808) : IntKind.i64.wrap n = n := by
  simp [IntKind.wrap, IntKind.bits, IntKind.signed]; omega
theorem sizeL_append : ∀ a b : List X, sizeL (a ++ b) = sizeL a + sizeL b
  | [], b => by simp [sizeL]
  | x :: a, b => by simp [sizeL, sizeL_append a b]; omega
theorem fin0 {S S' : St} (h1 : S'.H.length = S.H.length) (h2 : S'.T = S.T) : finish S (.tup []) S' = some (.tup [], S') :=
  finish_same rfl rfl rfl h1 h2
theorem fin_int (k : IntKind) (n : Int) (S : St) : finish S (.int k n) S = some (.int k n, S) := finish_same rfl rfl rfl rfl rfl
theorem fin_str (s : List UInt8) (S : St) : finish S (.str s) S = some (.str s, S) := finish_same rfl rfl rfl rfl rfl
theorem fin_bool (S : St) (b : Bool) : finish S (.bool b) S = some (.bool b, S) := finish_same rfl rfl rfl rfl rfl

def in64 (n : Int) : Prop := -9223372036854775808 ≤ n ∧ n ≤ 9223372036854775807
mutual
/-- its numbers are numbers of 64 bits; nothing of it is to be appended to -/
def X.fit : X → Prop
  | .mk k _ n lo hi tok kids => in64 k ∧ in64 n ∧ in64 lo ∧ in64 hi ∧ tok = false ∧ fitL kids
def fitL : List X → Prop
  | [] => True
  | x :: l => x.fit ∧ fitL l
end
mutual
/-- how much of it there is, at the least, to a reader -/
def X.bulk : X → Nat
  | .mk _ nm _ _ _ _ kids => 7 + nm.length + bulkL kids
def bulkL : List X → Nat
  | [] => 0
  | x :: l => x.bulk + bulkL l
end
mutual
theorem size_bulk : ∀ x : X, x.size ≤ x.bulk
  | .mk _ nm _ _ _ _ kids => by have := size_bulkL kids; simp only [X.size, X.bulk]; omega
theorem size_bulkL : ∀ l : List X, sizeL l ≤ bulkL l
  | [] => by simp [sizeL]
  | x :: l => by have := size_bulk x; have := size_bulkL l; simp only [sizeL, bulkL]; omega
end

def X.cells : X → List AV
  | .mk k nm n lo hi tok kids => [.int .i64 k, .str nm, .int .i64 n, .int .i64 lo, .int .i64 hi, .slice (embL kids) (tokOf tok)]
theorem emb_cells (x : X) : x.emb = .agg x.cells := by cases x; rfl
theorem cells_ok (x : X) : x.emb.cells? = some x.cells ∧ x.cells.length = 6 := by
  cases x; exact ⟨by simp [X.emb, X.cells, AV.cells?, AV.isCell], rfl⟩

theorem bulkL_le {H : Type} : ∀ (xs : List X) (ys : List (DataW H × List MemPlace)), ys.length = xs.length → (∀ (i : Nat) (x : X), xs[i]? = some x → ∃ y, ys[i]? = some y ∧ x.bulk ≤ Rows.uptoBulk y.1 ∧ x.fit) →
    bulkL xs ≤ Rows.uptoBulkAll (ys.map (·.1)) ∧ fitL xs
  | [], _, _, _ => by simp [bulkL, fitL]
  | x :: xs, [], h, _ => by simp at h
  | x :: xs, y :: ys, h, hq => by
    have h1 := bulkL_le xs ys (by simpa using h) fun i x' hx => by simpa using hq (i + 1) x' (by simpa using hx)
    obtain ⟨y', e, h2, h3⟩ := hq 0 x rfl
    simp at e
    subst e
    simp only [bulkL, fitL, List.map_cons, Rows.uptoBulkAll]
    exact ⟨by omega, h3, h1.2⟩

theorem wf64 {n : Int} (h : (Lit.int .i64 n).wf = true) : in64 n := by
  simp [Lit.wf, IntKind.min, IntKind.max, IntKind.signed, IntKind.bits] at h
  unfold in64
  omega

/-- AN EXPRESSION READ: it is one; its bulk is what the reader says, at the most. -/
theorem read_expr {H : Type} {enc : TypeId × Value → H} {W : World} {held : Bool} : ∀ (fuel : Nat) (cs : List Value) (x : DataW H × List MemPlace), DataW.trod enc Try.prog W 0 (fun _ => true) held fuel 24 cs = some x →
    ∃ e : X, VRL (gh0 W) e.cells cs ∧ e.bulk ≤ Rows.uptoBulk x.1 ∧ e.fit := by
  intro fuel
  induction fuel using Nat.strongRecOn with
  | _ fuel ih =>
  intro cs x h
  obtain ⟨xs, n, hf, rfl, hl, hxl, hfs⟩ := DataW.trod_struct Try.underlying24 h
  rw [c24] at hl
  match cs, hl with
  | [v0, v1, v2, v3, v4, v5], _ =>
  match xs, hxl with
  | [x0, x1, x2, x3, x4, x5], _ =>
  have g0 : DataW.trod enc Try.prog W 0 (fun _ => true) held n 3 [v0] = some x0 := by simpa [c3] using hfs 0 _ rfl
  have g1 : DataW.trod enc Try.prog W 0 (fun _ => true) held n 9 [v1] = some x1 := by simpa [c9] using hfs 1 _ rfl
  have g2 : DataW.trod enc Try.prog W 0 (fun _ => true) held n 2 [v2] = some x2 := by simpa [c2] using hfs 2 _ rfl
  have g3 : DataW.trod enc Try.prog W 0 (fun _ => true) held n 2 [v3] = some x3 := by simpa [c2] using hfs 3 _ rfl
  have g4 : DataW.trod enc Try.prog W 0 (fun _ => true) held n 2 [v4] = some x4 := by simpa [c2] using hfs 4 _ rfl
  have g5 : DataW.trod enc Try.prog W 0 (fun _ => true) held n 22 [v5] = some x5 := by simpa [c22] using hfs 5 _ rfl
  clear hfs h
  obtain ⟨k, e0, rfl, w0⟩ := DataW.trod_int u3 g0
  obtain ⟨nm, e1, rfl, w1⟩ := DataW.trod_string u9 g1
  obtain ⟨a, e2, rfl, w2⟩ := DataW.trod_int u2 g2
  obtain ⟨lo, e3, rfl, w3⟩ := DataW.trod_int u2 g3
  obtain ⟨hi, e4, rfl, w4⟩ := DataW.trod_int u2 g4
  cases e0; cases e1; cases e2; cases e3; cases e4
  obtain ⟨kids, hk, hq⟩ := slice_open (α := X) (emb := X.emb) (cl := X.cells) (Q := fun x y => x.bulk ≤ Rows.uptoBulk y.1 ∧ x.fit) (sz := 6) (by omega) u22 c24 cells_ok g5 fun n' cs y hn hy => ih n' (by omega) cs y hy
  rw [← embL_map] at hk
  cases hk with
  | cons _ _ _ _ hk _ =>
  have hb : bulkL kids + 1 ≤ Rows.uptoBulk x5.1 ∧ fitL kids := by
    rcases hq with ⟨rfl, hx⟩ | ⟨ys, rest, hx, hl, hq⟩
    · rw [hx]; simp [bulkL, Rows.uptoBulk, fitL]
    · have := bulkL_le kids ys hl hq
      rw [hx]
      simp only [Rows.uptoBulk]
      exact ⟨by omega, this.2⟩
  refine ⟨.mk k nm.data.toList a lo hi false kids, ?_, ?_, ?_⟩
  · exact .cons _ _ _ _ (.int _ _) (.cons _ _ _ _ (.str _) (.cons _ _ _ _ (.int _ _) (.cons _ _ _ _ (.int _ _) (.cons _ _ _ _ (.int _ _) (.cons _ _ _ _ hk .nil)))))
  · simp only [X.bulk, List.map_cons, List.map_nil, Rows.uptoBulk, Rows.uptoBulkAll]
    omega
  · exact ⟨wf64 w0, wf64 w2, wf64 w3, wf64 w4, rfl, hb.2⟩

/-- an argument of an expression's type -/
theorem open_expr {H : Type} {enc : TypeId × Value → H} {W : World} {base : Nat} {held : Bool} {v : Value} {d : DataW H} {ps : List MemPlace} (hval : Value.okWide Try.prog W .any base 24 v) (h : DataW.Trod enc Try.prog W 0 (fun _ => true) held 24 v d ps) :
    ∃ e : X, VR (gh0 W) e.emb v ∧ e.bulk ≤ Rows.uptoBulk d ∧ e.fit := by
  simp only [Value.okWide, Try.underlying24] at hval
  obtain ⟨cs, rfl, _, _⟩ := hval
  obtain ⟨fuel, h⟩ := h
  obtain ⟨e, h1, h2, h3⟩ := read_expr fuel _ _ h
  exact ⟨e, by rw [emb_cells]; exact .agg _ _ h1, h2, h3⟩
end Go.Proofs.Ytemggoaefohliaa.EX

/- strings.Join and strings.IndexByte by their contracts: as the evaluator takes them. No condition. -/
namespace Go.Proofs.Ytemggoaefohliaa.AE
set_option linter.unusedVariables false
set_option linter.unusedSimpArgs false
open Go Go.RowKit

def joinX (args : List AV) (S : St) : Option (Res × St) :=
  match args with
  | [.slice es _, .str sep] => match strsOf es with
    | some l => if l.length ≤ 140737488355328 ∧ (Lib.join l sep).length ≤ 140737488355328 then some (.ret (.str (Lib.join l sep)), S) else none
    | none => none
  | _ => none
def indexX (args : List AV) (S : St) : Option (Res × St) :=
  match args with
  | [.str s, .int .u8 c] => some (.ret (.int .i64 (Lib.indexByte s c.toNat.toUInt8)), S)
  | _ => none

theorem joinX_ok {args : List AV} {S S' : St} {r : Res} (h : joinX args S = some (r, S')) :
    (∃ fn, Try.prog.funcs[56]? = some fn ∧ (fn.name == "runtime.NumGoroutine") = false ∧ fn.body.isSome = true) ∧
    ∀ (w0 : World) (B : Nat) (G : Gh) (w : World) (vs : Array Value), Inv w0 B G S w → VRL G args vs.toList →
      Calls Try.prog 56 vs w fun e w' => ∃ G', Inv w0 B G' S' w' ∧ Ext G w G' w' ∧ G'.nu = G.nu ∧ ResR G' r e := by
  refine ⟨⟨_, Try.func56, by decide +kernel, by decide +kernel⟩, fun w0 B G w vs hi hv => ?_⟩
  unfold joinX at h
  split at h
  · rename_i es tok sep
    split at h
    · rename_i l hl
      split at h
      · rename_i hc
        cases h
        obtain ⟨c1, c2⟩ := hc
        have hes := strsOf_inv hl
        subst hes
        obtain ⟨a⟩ := vs
        simp only at hv
        cases hv with
        | cons _ v0 _ m h0 hm =>
          cases hm with
          | cons _ v1 _ m h1 hm =>
            cases hm
            obtain ⟨p, rfl, rfl⟩ := h1.inv_str
            have fin : ∀ (xs : List ByteArray) (w' : World), xs.map (·.data.toList) = l → Below w.heap.size w w' → ∀ q : ByteArray, q.data.toList = Lib.join l p.data.toList →
                ∃ G', Inv w0 B G' S w' ∧ Ext G w G' w' ∧ G'.nu = G.nu ∧ ResR G' (.ret (.str (Lib.join l p.data.toList))) (.returned (.string q)) := fun xs w' hx hb q hq => by
              obtain ⟨i1, i2⟩ := hi.grow hb
              exact ⟨G, i1, i2, rfl, by rw [← hq]; exact VR.str q⟩
            generalize hes : List.map AV.str l = es at *
            cases h0 with
            | nils _ ad _ =>
              have : l = [] := by cases l <;> simp_all
              subst this
              refine (SH.strings_Join_none ad 0 p w).mono fun e w' ⟨he, hw⟩ => ?_
              subst he; subst hw
              exact fin [] _ rfl (Below.refl _ _) _ rfl
            | slice _ _ fl b o cap sz k1 k2 k3 k4 k5 =>
              subst hes
              rw [flatQ_strs] at k2
              cases k2
              obtain ⟨us, v1, v2⟩ := k3.vals
              obtain ⟨xs, rfl, rfl⟩ := VRL_strs v1
              have hlen : (List.map AV.str (xs.map (·.data.toList))).length = xs.length := by simp
              rw [hlen] at k1 ⊢
              cases xs with
              | nil =>
                refine (SH.strings_Join_none (some ⟨b, o, none⟩) cap p w).mono fun e w' ⟨he, hw⟩ => ?_
                subst he; subst hw
                exact fin [] _ rfl (Below.refl _ _) _ rfl
              | cons x xs =>
                have hcells : ∀ (j : Nat) y, (x :: xs)[j]? = some y → w.cell? ⟨b, o + j, none⟩ = some (.string y) := fun j y hj =>
                  hi.imm _ _ _ (v2 j (.string y) (by rw [List.getElem?_map, hj]; rfl))
                refine (SH.strings_Join b o cap (x :: xs) p w hcells (World.block_lt_of_cell? w _ (hcells 0 x rfl)) (by simpa using c1) k1 c2).mono fun e w' ⟨he, hw⟩ => ?_
                subst he
                exact fin (x :: xs) _ rfl hw _ (by simp)
      · cases h
    · cases h
  · cases h

theorem indexX_ok {args : List AV} {S S' : St} {r : Res} (h : indexX args S = some (r, S')) :
    (∃ fn, Try.prog.funcs[84]? = some fn ∧ (fn.name == "runtime.NumGoroutine") = false ∧ fn.body.isSome = true) ∧
    ∀ (w0 : World) (B : Nat) (G : Gh) (w : World) (vs : Array Value), Inv w0 B G S w → VRL G args vs.toList →
      Calls Try.prog 84 vs w fun e w' => ∃ G', Inv w0 B G' S' w' ∧ Ext G w G' w' ∧ G'.nu = G.nu ∧ ResR G' r e := by
  refine ⟨⟨_, Try.func84, by decide +kernel, by decide +kernel⟩, fun w0 B G w vs hi hv => ?_⟩
  unfold indexX at h
  split at h
  · rename_i s c
    cases h
    obtain ⟨a⟩ := vs
    simp only at hv
    cases hv with
    | cons _ v0 _ m h0 hm =>
      cases hm with
      | cons _ v1 _ m h1 hm =>
        cases hm
        obtain ⟨p, rfl, rfl⟩ := h0.inv_str
        cases h1
        refine (SH.strings_IndexByte p c w).mono fun e w' ⟨he, hw⟩ => ?_
        subst he; subst hw
        exact ⟨G, hi, .refl G _, rfl, VR.int _ _⟩
  · cases h
end Go.Proofs.Ytemggoaefohliaa.AE

/- Decimals, evaluated. No condition. -/
namespace Go.Proofs.Ytemggoaefohliaa.PT
set_option linter.unusedVariables false
set_option linter.unusedSimpArgs false
open Go AE EX
set_option maxRecDepth 100000

/-- the functions that are followed -/
def okL : List Nat := [4, 5, 6, 7, 8, 12, 13, 14, 15, 16, 17, 18, 19, 20, 21, 22, 23, 24, 25, 30, 31, 32, 33, 34, 35, 36, 37, 38, 39, 40, 41, 42, 43, 44, 45, 46, 47, 48, 49, 50, 51, 53, 54, 55, 57, 58, 59, 60, 61, 62, 63, 64, 65, 69, 70, 71, 72, 73, 74, 75, 78, 79, 80, 81, 85, 86]
noncomputable def E : Env where
  ok := fun f => okL.contains f
  esc := fun _ _ => false
  ps := fun f id => if f = 40 ∧ id = 15 then [(1, 5), (1, 6)] else if f = 17 ∧ id = 9 then [(1, 5), (2, 5)] else if f = 17 ∧ id = 11 then [(1, 4), (2, 4), (1, 6), (2, 6), (4, 6), (1, 11), (2, 11), (4, 11), (6, 11), (7, 11)] else
    if f = 17 ∧ id = 13 then [(1, 8), (3, 8), (4, 8), (1, 13), (3, 13), (4, 13), (8, 13), (9, 13), (1, 15), (3, 15), (4, 15), (8, 15), (9, 15)] else if f = 35 ∧ id = 9 then [(4, 6), (4, 11)] else if f = 42 ∧ id = 14 then [(1, 5), (1, 6)] else
    if f = 18 ∧ id = 10 then [(0, 4), (1, 4)] else if f = 18 ∧ id = 11 then [(1, 8), (3, 8), (4, 8), (1, 13), (3, 13), (4, 13), (8, 13), (9, 13), (1, 15), (3, 15), (4, 15), (8, 15), (9, 15)] else if f = 4 ∧ id = 5 then [(4, 6), (5, 6)] else
    if f = 19 ∧ id = 6 then [(1, 6), (4, 6), (1, 9), (4, 9)] else if f = 5 ∧ id = 5 then [(0, 2), (1, 2), (0, 5), (1, 5), (2, 5), (3, 5), (0, 6), (1, 6), (2, 6), (3, 6), (5, 6)] else
    if f = 70 ∧ id = 1 then [(1, 4), (1, 7), (4, 7), (1, 10), (4, 10), (7, 10)] else
    if f = 71 ∧ id = 4 then [(13, 19)] else
    if f = 59 ∧ id = 3 then [(1, 4), (2, 4)] else
    if f = 49 ∧ id = 6 then [(1, 4), (2, 4), (1, 6), (2, 6), (1, 9), (2, 9), (4, 9), (6, 9), (7, 9), (1, 11), (2, 11), (4, 11), (6, 11), (7, 11)] else
    if f = 49 ∧ id = 9 then [(1, 4), (2, 4), (1, 6), (2, 6), (4, 6), (1, 8), (2, 8), (4, 8), (6, 8), (1, 10), (2, 10), (4, 10), (6, 10), (4, 11), (6, 11)] else
    if f = 48 ∧ id = 14 then [(1, 4), (1, 7), (4, 7)] else
    if f = 23 ∧ id = 1 then [(0, 2), (1, 2)] else
    if f = 24 ∧ id = 7 then [(3, 6)] else
    if f = 24 ∧ id = 12 then [(2, 8), (4, 8), (6, 8), (2, 10), (4, 10), (6, 10)] else
    if f = 24 ∧ id = 14 then [(2, 4), (2, 6), (4, 6), (2, 8), (4, 8), (2, 10), (4, 10)] else
    if f = 24 ∧ id = 23 then [(1, 3), (1, 6), (1, 7)] else
    if f = 6 ∧ id = 3 then [(0, 2), (1, 2), (0, 4), (1, 4), (2, 4), (3, 4), (0, 5), (1, 5), (2, 5), (3, 5), (4, 5)] else
    if f = 6 ∧ id = 7 then [(0, 1), (4, 5), (4, 6), (10, 12), (11, 12), (10, 13), (11, 13), (12, 13)] else
    if f = 7 ∧ id = 5 then [(0, 2), (1, 2), (0, 4), (1, 4), (2, 4), (3, 4), (0, 5), (1, 5), (2, 5), (3, 5), (4, 5)] else
    if f = 7 ∧ id = 6 then [(15, 17), (16, 17)] else
    if f = 8 ∧ id = 7 then [(0, 2), (1, 2)] else
    if f = 8 ∧ id = 9 then [(4, 6), (5, 6)] else []
  ext := fun f args S => if f = 56 then joinX args S else if f = 84 then indexX args S else none

theorem c5 : Try.prog.cellsOf 5 = 1 := by kernel_rfl
theorem by5 : Try.prog.bytesOf 5 = 1 := by kernel_rfl
theorem sq54 : sliceQ Try.prog 54 = some 5 := by kernel_rfl
theorem u54 : Try.prog.underlying 54 = some (.slice 5) := by kernel_rfl
theorem z5 : zeroQ Try.prog 5 = some [.int .u8 0] := by kernel_rfl
theorem a5 : aggQ Try.prog 5 = false := by kernel_rfl
theorem iq52 : intQ Try.prog 52 = some .u64 := by kernel_rfl
theorem iq5 : intQ Try.prog 5 = some .u8 := by kernel_rfl
theorem iq2 : intQ Try.prog 2 = some .i64 := by kernel_rfl
theorem bq52 : boolQ Try.prog 52 = false := by kernel_rfl
theorem bq9 : boolQ Try.prog 9 = false := by kernel_rfl
theorem sq9 : strQ Try.prog 9 = true := by kernel_rfl
theorem sl54 : sliceQ Try.prog 54 = some 5 := by kernel_rfl

theorem wrapu64 (n : Int) (h : 0 ≤ n ∧ n < 18446744073709551616) : IntKind.u64.wrap n = n := by
  simp [IntKind.wrap, IntKind.bits, IntKind.signed]; omega
theorem wrapu8 (n : Int) (h : 0 ≤ n ∧ n < 256) : IntKind.u8.wrap n = n := by
  simp [IntKind.wrap, IntKind.bits, IntKind.signed]; omega

/-- a number's size, as 64 bits -/
theorem ev_size (n : Nat) (a : Int) (S : St) (ha : in64 a) : ev Try.prog E (n + 1) 53 [.int .i64 a] S = some (.ret (.int .u64 a.natAbs), S) := by
  unfold in64 at ha
  rw [ev_enter (n := n) (show E.ok 53 = true from rfl) Try.func53 (fn := Try.f53) rfl (Nat.le_of_ble_eq_true rfl) (by decide +kernel)]
  by_cases h : a < 0
  · have w1 : IntKind.u64.wrap (0 - IntKind.u64.wrap a) = a.natAbs := by
      simp [IntKind.wrap, IntKind.bits, IntKind.signed]; omega
    have w1' : IntKind.u64.wrap (-IntKind.u64.wrap a) = a.natAbs := by
      simp [IntKind.wrap, IntKind.bits, IntKind.signed]; omega
    simp [ev, evFunc, evUn, evIndex, evCode, lexA, lexF, afterDraw, noClash, FP.clash, stepA, wantedA, evOp, rho, rhoL, ofC0, ofC, argsA, upd, afterRegion, putA, goOp, evBin, evBuiltin, evLen, evMin2, evMax2, evCallee, evBox, evLoad, evStore, evFieldAddr, evField, evIndexAddr, evBuild, evBuildSlice, nth, rdc, wrc, fromBody, resA, finRet, oneOf, AV.cells?, AV.isCell, AV.sealed, AV.sealedL, AV.strip, AV.stripL, AV.low, AV.lowL, boxEqL_refl, -ev, -evFunc, evConv, Try.f53, bq2, iq2, iq52, h, w1, w1', fin_int]
  · have w1 : IntKind.u64.wrap a = a.natAbs := by
      simp [IntKind.wrap, IntKind.bits, IntKind.signed]; omega
    simp [ev, evFunc, evUn, evIndex, evCode, lexA, lexF, afterDraw, noClash, FP.clash, stepA, wantedA, evOp, rho, rhoL, ofC0, ofC, argsA, upd, afterRegion, putA, goOp, evBin, evBuiltin, evLen, evMin2, evMax2, evCallee, evBox, evLoad, evStore, evFieldAddr, evField, evIndexAddr, evBuild, evBuildSlice, nth, rdc, wrc, fromBody, resA, finRet, oneOf, AV.cells?, AV.isCell, AV.sealed, AV.sealedL, AV.strip, AV.stripL, AV.low, AV.lowL, boxEqL_refl, -ev, -evFunc, evConv, Try.f53, bq2, iq2, iq52, h, w1, fin_int]

def dig (d : Nat) : UInt8 := UInt8.ofNat (48 + d)
/-- decimals -/
def dg (u : Nat) : List UInt8 := if h : u < 10 then [dig u] else dg (u / 10) ++ [dig (u % 10)]
theorem dg_lt {u : Nat} (h : u < 10) : dg u = [dig u] := by rw [dg, dif_pos h]
theorem dg_ge {u : Nat} (h : ¬ u < 10) : dg u = dg (u / 10) ++ [dig (u % 10)] := by rw [dg, dif_neg h]
theorem dg_len : ∀ (k u : Nat), u < 10 ^ (k + 1) → (dg u).length ≤ k + 1
  | 0, u, h => by rw [dg_lt (by simpa using h)]; simp
  | k + 1, u, h => by
    by_cases hu : u < 10
    · rw [dg_lt hu]; simp
    · rw [dg_ge hu]
      have := dg_len k (u / 10) (by rw [Nat.div_lt_iff_lt_mul (by omega)]; rw [Nat.pow_succ] at h; exact h)
      simp; omega
theorem dg_len20 {u : Nat} (h : u < 18446744073709551616) : (dg u).length ≤ 20 := dg_len 19 u (by omega)
theorem dg_pos (u : Nat) : 1 ≤ (dg u).length := by
  by_cases h : u < 10
  · rw [dg_lt h]; simp
  · rw [dg_ge h]; simp
theorem dig_nat {d : Nat} (h : d < 10) : (dig d).toNat = 48 + d := by
  unfold dig
  simp [UInt8.toNat_ofNat']
  omega

def dec (a : Int) : List UInt8 := if a < 0 then 45 :: dg a.natAbs else dg a.natAbs

def bav (l : List UInt8) : List AV := l.map fun b => .int .u8 b.toNat
theorem bav_sizes : ∀ l : List UInt8, sizesOk 1 (bav l) = true
  | [] => rfl
  | b :: l => by
    have := bav_sizes l
    simp only [bav] at this
    simp [bav, sizesOk, AV.cells?, this]
theorem bav_bytes : ∀ l : List UInt8, bytesOf (bav l) = some l
  | [] => rfl
  | b :: l => by
    have := bav_bytes l
    simp only [bav] at this
    simp [bav, bytesOf, this]
theorem bav_len (l : List UInt8) : (bav l).length = l.length := by simp [bav]

def apTok (xs : List AV) (S : St) : Tok := if xs = [] then .clip else .own S.T.length (1 + xs.length)
def apEx (xs : List AV) : List Nat := if xs = [] then [] else [1 + xs.length]
theorem appB (a : Int) (l : List UInt8) (tok : Tok) (S : St) (h : l.length ≤ 1000) : evAppend Try.prog [54, 54] (.slice [.int .u8 a] .clip) (.slice (bav l) tok) S = some (.slice (.int .u8 a :: bav l) (apTok (bav l) S), ⟨S.H, S.T ++ apEx (bav l)⟩) := by
  have hs := bav_sizes l
  have hl := bav_len l
  simp only [evAppend, sq54, u54, elemsOf, z5, c5, by5]
  by_cases hn : bav l = []
  · simp [hn, apTok, apEx, sizesOk, AV.cells?]
  · simp [hn, apTok, apEx, hs, sizesOk, AV.cells?, Nat.add_comm]
    omega
end Go.Proofs.Ytemggoaefohliaa.PT

/- Decimals, evaluated, of both. No condition. -/
namespace Go.Proofs.Ytemggoaefohliaa.PT
set_option linter.unusedVariables false
set_option linter.unusedSimpArgs false
open Go AE EX
set_option maxRecDepth 100000

noncomputable def dLoop : Code := cutC (bodyOf Try.f30) [1, 1, 1, 0, 0, 0]
noncomputable def d0 : Code := cutC (bodyOf Try.f30) [0]
noncomputable def d1 : Code := cutC (bodyOf Try.f30) [1, 0]
noncomputable def d2 : Code := cutC (bodyOf Try.f30) [1, 1, 0]
noncomputable def d3 : Code := cutC (bodyOf Try.f30) [1, 1, 1, 1]
theorem f30b : Try.f30.body = some (.seq d0 (.seq d1 (.seq d2 (.seq (.block 0 (.loop dLoop)) d3)))) := rfl

def DI (a : Int) (S0 : St) (m : Nat) (fs : FS) : Prop :=
  ∃ (u : Nat) (l : List UInt8) (tok : Tok) (ex : List Nat), fs.t 0 = .int .i64 a ∧ fs.t 3 = .int .u64 u ∧ u < 18446744073709551616 ∧ fs.t 4 = .slice (bav l) tok ∧ dg u ++ l = dg a.natAbs ∧ m = (dg u).length ∧ fs.S = ⟨S0.H, S0.T ++ ex⟩
def DQ (a : Int) (S0 : St) (r : Out × FS) : Prop :=
  r.1 = .exit 0 ∧ ∃ (u : Nat) (l : List UInt8) (tok : Tok) (ex : List Nat), r.2.t 0 = .int .i64 a ∧ r.2.t 3 = .int .u64 u ∧ u < 10 ∧ r.2.t 4 = .slice (bav l) tok ∧ dig u :: l = dg a.natAbs ∧ r.2.S = ⟨S0.H, S0.T ++ ex⟩

theorem dec_round (n : Nat) (a : Int) (ha : in64 a) (S0 : St) (m : Nat) (fs : FS) (h : DI a S0 m fs) :
    ∃ o fs', evCode ⟨Try.prog, E.esc 30, n⟩ (ev Try.prog E n) (E.ps 30) n dLoop fs = some (o, fs') ∧ ((o = .norm ∧ ∃ m', m' < m ∧ DI a S0 m' fs') ∨ (o ≠ .norm ∧ DQ a S0 (o, fs'))) := by
  obtain ⟨t, b, v, S⟩ := fs
  obtain ⟨u, l, tok, ex, h0, h1, h2, h3, h4, h5, h6⟩ := h
  simp at h0 h1 h3 h6
  subst h6
  unfold in64 at ha
  by_cases hu : u < 10
  · refine ⟨.exit 0, _, by
      simp [ev, evFunc, evUn, evIndex, evCode, lexA, lexF, afterDraw, noClash, FP.clash, stepA, wantedA, evOp, rho, rhoL, ofC0, ofC, argsA, upd, afterRegion, putA, goOp, evBin, evBuiltin, evLen, evMin2, evMax2, evCallee, evBox, evLoad, evStore, evFieldAddr, evField, evIndexAddr, evBuild, evBuildSlice, nth, rdc, wrc, fromBody, resA, finRet, oneOf, AV.cells?, AV.isCell, AV.sealed, AV.sealedL, AV.strip, AV.stripL, AV.low, AV.lowL, boxEqL_refl, -ev, -evFunc, dLoop, cutC, bodyOf, Try.f30, h0, h1, show ¬ ((u : Int) ≥ 10) by omega, bq52]
      rfl, .inr ⟨by simp, rfl, u, l, tok, ex, by simp [upd, h0], by simp [upd, h1], hu, by simp [upd, h3], ?_, rfl⟩⟩
    rw [← h4, dg_lt hu]; rfl
  · have hl : l.length ≤ 1000 := by
      have := congrArg List.length h4
      have h7 := dg_len20 (u := a.natAbs) (by omega)
      simp at this
      omega
    have e1 : ((u : Int).tmod 10) = (u % 10 : Nat) := by rw [Int.tmod_eq_emod_of_nonneg (by omega)]; omega
    have e2 : ((u : Int).tdiv 10) = (u / 10 : Nat) := by rw [Int.tdiv_eq_ediv_of_nonneg (by omega)]; omega
    have w1 : IntKind.u64.wrap (48 + (u % 10 : Nat)) = (48 + (u % 10 : Nat) : Int) := wrapu64 _ (by omega)
    have w2 : IntKind.u8.wrap (48 + (u % 10 : Nat)) = ((dig (u % 10)).toNat : Int) := by
      rw [wrapu8 _ (by omega), dig_nat (by omega)]; omega
    have w3 : IntKind.u64.wrap ((u / 10 : Nat) : Int) = (u / 10 : Nat) := wrapu64 _ (by omega)
    have e3 : (10 : Int) ≤ u := by omega
    have hcons : ∀ x : UInt8, AV.int .u8 x.toNat :: bav l = bav (x :: l) := fun _ => rfl
    refine ⟨.norm, _, by
      simp [ev, evFunc, evUn, evIndex, evCode, lexA, lexF, afterDraw, noClash, FP.clash, stepA, wantedA, evOp, rho, rhoL, ofC0, ofC, argsA, upd, afterRegion, putA, goOp, evBin, evBuiltin, evLen, evMin2, evMax2, evCallee, evBox, evLoad, evStore, evFieldAddr, evField, evIndexAddr, evBuild, evBuildSlice, nth, rdc, wrc, fromBody, resA, finRet, oneOf, AV.cells?, AV.isCell, AV.sealed, AV.sealedL, AV.strip, AV.stripL, AV.low, AV.lowL, boxEqL_refl, -ev, -evFunc, evConv, evElems, dLoop, cutC, bodyOf, Try.f30, h0, h1, h3, e3, bq52, e1, e2, -Int.natCast_emod, -Int.natCast_ediv, w1, w2, w3, iq52, iq5, sq54, z5, c5, a5, appB _ l tok _ hl]
      rfl, .inl ⟨rfl, (dg (u / 10)).length, ?_, u / 10, dig (u % 10) :: l, apTok (bav l) ⟨S0.H, S0.T ++ ex⟩, ex ++ apEx (bav l), ?_, ?_, ?_, ?_, ?_, rfl, ?_⟩⟩
    · rw [h5, dg_ge hu]; simp
    · simp [upd, h0]
    · simp [upd]
    · omega
    · simp [upd, hcons]
    · rw [← h4, dg_ge hu]; simp
    · simp

theorem fin_strT (s : List UInt8) (S : St) (ex : List Nat) : finish S (.str s) ⟨S.H, S.T ++ ex⟩ = some (.str s, S) := by
  unfold finish
  simp [AV.sealed, AV.strip, AV.low, boxEqL_refl]

theorem ev_dec (n : Nat) (hn : 30 ≤ n) (a : Int) (ha : in64 a) (S : St) : ev Try.prog E (n + 1) 30 [.int .i64 a] S = some (.ret (.str (dec a)), S) := by
  have hs := ev_size (n - 1) a S ha
  rw [show n - 1 + 1 = n by omega] at hs
  have ha' := ha
  unfold in64 at ha'
  have key : ∀ fs, DI a S (dg a.natAbs).length fs → ∃ r, iter n (evCode ⟨Try.prog, E.esc 30, n⟩ (ev Try.prog E n) (E.ps 30) n dLoop) fs = some r ∧ DQ a S r := fun fs h =>
    iter_meas (fun m fs h => dec_round n a ha S m fs h) (dg a.natAbs).length n fs (by have := dg_len20 (u := a.natAbs) (by omega); omega) h
  obtain ⟨r, hr, hq1, u, l, tok, ex, q0, q1, q2, q3, q4, q5⟩ := key ⟨upd 4 (.slice [] .clip) (upd 3 (.int .u64 a.natAbs) (upd 7 (.int .u64 a.natAbs) (upd 6 (.int .i64 a) (upd 2 (.str []) (argsA [.int .i64 a]))))), fun _ => (0, []), 5, S⟩
    ⟨a.natAbs, [], .clip, [], by simp [upd, argsA], by simp [upd], by omega, by simp [upd, bav], by simp, rfl, by simp⟩
  obtain ⟨o, t, b, v, S'⟩ := r
  simp at hq1 q0 q1 q3 q5
  subst hq1 q5
  have hl : l.length ≤ 1000 := by
    have := congrArg List.length q4
    have h7 := dg_len20 (u := a.natAbs) (by omega)
    simp at this
    omega
  have w1 : IntKind.u64.wrap (48 + (u : Int)) = (48 + u : Int) := wrapu64 _ (by omega)
  have w2 : IntKind.u8.wrap (48 + (u : Int)) = ((dig u).toNat : Int) := by
    rw [wrapu8 _ (by omega), dig_nat (by omega)]; omega
  have hbb : bytesOf (.int .u8 (dig u).toNat :: bav l) = some (dig u :: l) := bav_bytes (dig u :: l)
  have hf := fin_strT (dec a) S (ex ++ apEx (bav l))
  rw [ev_enter (n := n) (show E.ok 30 = true from rfl) Try.func30 f30b (Nat.le_of_ble_eq_true rfl) (by decide +kernel)]
  have hlen : (dg a.natAbs).length ≤ 20 := dg_len20 (by omega)
  by_cases h : a < 0
  · have hd : dec a = 45 :: dg a.natAbs := by simp [dec, h]
    rw [hd] at hf
    simp [ev, evFunc, evUn, evIndex, evCode, lexA, lexF, afterDraw, noClash, FP.clash, stepA, wantedA, evOp, rho, rhoL, ofC0, ofC, argsA, upd, afterRegion, putA, goOp, evBin, evBuiltin, evLen, evMin2, evMax2, evCallee, evBox, evLoad, evStore, evFieldAddr, evField, evIndexAddr, evBuild, evBuildSlice, nth, rdc, wrc, fromBody, resA, finRet, oneOf, AV.cells?, AV.isCell, AV.sealed, AV.sealedL, AV.strip, AV.stripL, AV.low, AV.lowL, boxEqL_refl, -ev, -evFunc, evConv, evElems, d0, d1, d2, d3, cutC, bodyOf, Try.f30, hs, hr, q0, q1, q3, bq52, w1, w2, iq52, iq5, sq54, z5, c5, a5, appB _ l tok _ hl, sq9, hbb, q4, h, hf, hd, show (dg a.natAbs).length + 1 ≤ 4611686018427387904 by omega, show 1 + (dg a.natAbs).length ≤ 4611686018427387904 by omega]
  · have hd : dec a = dg a.natAbs := by simp [dec, h]
    rw [hd] at hf
    simp [ev, evFunc, evUn, evIndex, evCode, lexA, lexF, afterDraw, noClash, FP.clash, stepA, wantedA, evOp, rho, rhoL, ofC0, ofC, argsA, upd, afterRegion, putA, goOp, evBin, evBuiltin, evLen, evMin2, evMax2, evCallee, evBox, evLoad, evStore, evFieldAddr, evField, evIndexAddr, evBuild, evBuildSlice, nth, rdc, wrc, fromBody, resA, finRet, oneOf, AV.cells?, AV.isCell, AV.sealed, AV.sealedL, AV.strip, AV.stripL, AV.low, AV.lowL, boxEqL_refl, -ev, -evFunc, evConv, evElems, d0, d1, d2, d3, cutC, bodyOf, Try.f30, hs, hr, q0, q1, q3, bq52, w1, w2, iq52, iq5, sq54, z5, c5, a5, appB _ l tok _ hl, sq9, hbb, q4, h, hf, hd]

/-! ### the page's -/
noncomputable def rLoop : Code := cutC (bodyOf Try.f31) [1, 1, 1, 0, 1, 0, 0]
noncomputable def r0 : Code := cutC (bodyOf Try.f31) [0]
noncomputable def r1 : Code := cutC (bodyOf Try.f31) [1, 0]
noncomputable def r2 : Code := cutC (bodyOf Try.f31) [1, 1, 0]
noncomputable def r3 : Code := cutC (bodyOf Try.f31) [1, 1, 1, 0, 0]
noncomputable def r4 : Code := cutC (bodyOf Try.f31) [1, 1, 1, 1]
theorem f31b : Try.f31.body = some (.seq r0 (.seq r1 (.seq r2 (.seq (.seq r3 (.block 0 (.loop rLoop))) r4)))) := rfl

def RI (a : Int) (S0 : St) (m : Nat) (fs : FS) : Prop :=
  ∃ (u : Int) (l : List UInt8), fs.t 0 = .int .i64 a ∧ fs.t 4 = .int .i64 u ∧ in64 u ∧ fs.t 3 = .str l ∧ (if u = 0 then l else dg u.natAbs ++ l) = dg a.natAbs ∧ m = (if u = 0 then 0 else (dg u.natAbs).length) ∧ fs.S = S0
def RQ (a : Int) (S0 : St) (r : Out × FS) : Prop :=
  r.1 = .exit 0 ∧ r.2.t 0 = .int .i64 a ∧ r.2.t 3 = .str (dg a.natAbs) ∧ r.2.S = S0

theorem rdec_round (n : Nat) (a : Int) (ha : in64 a) (S0 : St) (m : Nat) (fs : FS) (h : RI a S0 m fs) :
    ∃ o fs', evCode ⟨Try.prog, E.esc 31, n⟩ (ev Try.prog E n) (E.ps 31) n rLoop fs = some (o, fs') ∧ ((o = .norm ∧ ∃ m', m' < m ∧ RI a S0 m' fs') ∨ (o ≠ .norm ∧ RQ a S0 (o, fs'))) := by
  obtain ⟨t, b, v, S⟩ := fs
  obtain ⟨u, l, h0, h1, h2, h3, h4, h5, h6⟩ := h
  simp at h0 h1 h3 h6
  subst h6
  unfold in64 at ha h2
  by_cases hu : u = 0
  · subst hu
    refine ⟨.exit 0, _, by
      simp [ev, evFunc, evUn, evIndex, evCode, lexA, lexF, afterDraw, noClash, FP.clash, stepA, wantedA, evOp, rho, rhoL, ofC0, ofC, argsA, upd, afterRegion, putA, goOp, evBin, evBuiltin, evLen, evMin2, evMax2, evCallee, evBox, evLoad, evStore, evFieldAddr, evField, evIndexAddr, evBuild, evBuildSlice, nth, rdc, wrc, fromBody, resA, finRet, oneOf, AV.cells?, AV.isCell, AV.sealed, AV.sealedL, AV.strip, AV.stripL, AV.low, AV.lowL, boxEqL_refl, -ev, -evFunc, rLoop, cutC, bodyOf, Try.f31, h0, h1, bq2]
      rfl, .inr ⟨by simp, rfl, by simp [upd, h0], ?_, rfl⟩⟩
    simp [upd, h3]; simpa using h4
  · have hun : (u != 0) = true := by simp [hu]
    rw [if_neg hu] at h4 h5
    have hl : l.length ≤ 1000 := by
      have := congrArg List.length h4
      have h7 := dg_len20 (u := a.natAbs) (by omega)
      simp at this
      omega
    have e2 : in64 (u.tdiv 10) ∧ (u.tdiv 10).natAbs = u.natAbs / 10 := by
      refine ⟨?_, by rw [Int.natAbs_tdiv]; rfl⟩
      have : (u.tdiv 10).natAbs = u.natAbs / 10 := by rw [Int.natAbs_tdiv]; rfl
      unfold in64; omega
    have e1 : (u.tmod 10).natAbs = u.natAbs % 10 := by rw [Int.natAbs_tmod]; rfl
    have w3 : IntKind.i64.wrap (u.tdiv 10) = u.tdiv 10 := wrap64 _ (by have := e2.1; unfold in64 at this; omega)
    have fin : ∃ fs', evCode ⟨Try.prog, E.esc 31, n⟩ (ev Try.prog E n) (E.ps 31) n rLoop ⟨t, b, v, S⟩ = some (.norm, fs') ∧ fs'.t 0 = .int .i64 a ∧ fs'.t 4 = .int .i64 (u.tdiv 10) ∧ fs'.t 3 = .str (dig (u.natAbs % 10) :: l) ∧ fs'.S = S := by
      by_cases hm : u.tmod 10 < 0
      · have w0 : IntKind.i64.wrap (-(u.tmod 10)) = (u.natAbs % 10 : Nat) := by rw [wrap64 _ (by omega)]; omega
        have w1 : IntKind.i64.wrap (48 + ((u.natAbs % 10 : Nat) : Int)) = 48 + ((u.natAbs % 10 : Nat) : Int) := wrap64 _ (by omega)
        have w2 : IntKind.u8.wrap (48 + ((u.natAbs % 10 : Nat) : Int)) = ((dig (u.natAbs % 10)).toNat : Int) := by
          rw [wrapu8 _ (by omega), dig_nat (by omega)]; omega
        refine ⟨_, by
          simp [ev, evFunc, evUn, evIndex, evCode, lexA, lexF, afterDraw, noClash, FP.clash, stepA, wantedA, evOp, rho, rhoL, ofC0, ofC, argsA, upd, afterRegion, putA, goOp, evBin, evBuiltin, evLen, evMin2, evMax2, evCallee, evBox, evLoad, evStore, evFieldAddr, evField, evIndexAddr, evBuild, evBuildSlice, nth, rdc, wrc, fromBody, resA, finRet, oneOf, AV.cells?, AV.isCell, AV.sealed, AV.sealedL, AV.strip, AV.stripL, AV.low, AV.lowL, boxEqL_refl, -ev, -evFunc, evConv, evElems, rLoop, cutC, bodyOf, Try.f31, h0, h1, h3, hun, bq2, hm, -Int.natCast_emod, -Int.natCast_ediv, w0, w1, w2, w3, iq2, iq5, sq54, z5, c5, a5, sq9, bytesOf, show l.length + 1 ≤ 4611686018427387904 by omega, show 1 + l.length ≤ 4611686018427387904 by omega]
          rfl, by simp [upd, h0], by simp [upd], by simp [upd], rfl⟩
      · have w0 : u.tmod 10 = (u.natAbs % 10 : Nat) := by omega
        have w1 : IntKind.i64.wrap (48 + ((u.natAbs % 10 : Nat) : Int)) = 48 + ((u.natAbs % 10 : Nat) : Int) := wrap64 _ (by omega)
        have w2 : IntKind.u8.wrap (48 + ((u.natAbs % 10 : Nat) : Int)) = ((dig (u.natAbs % 10)).toNat : Int) := by
          rw [wrapu8 _ (by omega), dig_nat (by omega)]; omega
        have hm0 : ¬ ((u.natAbs % 10 : Nat) : Int) < 0 := by omega
        refine ⟨_, by
          simp [ev, evFunc, evUn, evIndex, evCode, lexA, lexF, afterDraw, noClash, FP.clash, stepA, wantedA, evOp, rho, rhoL, ofC0, ofC, argsA, upd, afterRegion, putA, goOp, evBin, evBuiltin, evLen, evMin2, evMax2, evCallee, evBox, evLoad, evStore, evFieldAddr, evField, evIndexAddr, evBuild, evBuildSlice, nth, rdc, wrc, fromBody, resA, finRet, oneOf, AV.cells?, AV.isCell, AV.sealed, AV.sealedL, AV.strip, AV.stripL, AV.low, AV.lowL, boxEqL_refl, -ev, -evFunc, evConv, evElems, rLoop, cutC, bodyOf, Try.f31, h0, h1, h3, hun, bq2, w0, hm0, -Int.natCast_emod, -Int.natCast_ediv, w1, w2, w3, iq2, iq5, sq54, z5, c5, a5, sq9, bytesOf, show l.length + 1 ≤ 4611686018427387904 by omega, show 1 + l.length ≤ 4611686018427387904 by omega]
          rfl, by simp [upd, h0], by simp [upd], by simp [upd], rfl⟩
    obtain ⟨fs', g1, g2, g3, g4, g5⟩ := fin
    refine ⟨.norm, fs', g1, .inl ⟨rfl, _, ?_, u.tdiv 10, dig (u.natAbs % 10) :: l, g2, g3, e2.1, g4, ?_, rfl, g5⟩⟩
    · rw [h5]
      split
      · have := dg_pos u.natAbs; omega
      · rename_i hne
        rw [e2.2, dg_ge (u := u.natAbs) (by omega)]; simp
    · rw [← h4]
      split
      · rename_i hz
        rw [dg_lt (by omega), show u.natAbs % 10 = u.natAbs by omega]; rfl
      · rw [e2.2, dg_ge (u := u.natAbs) (by omega)]; simp

theorem ev_rdec (n : Nat) (hn : 30 ≤ n) (a : Int) (ha : in64 a) (S : St) : ev Try.prog E (n + 1) 31 [.int .i64 a] S = some (.ret (.str (dec a)), S) := by
  have ha' := ha
  unfold in64 at ha'
  rw [ev_enter (n := n) (show E.ok 31 = true from rfl) Try.func31 f31b (Nat.le_of_ble_eq_true rfl) (by decide +kernel)]
  by_cases h0 : a = 0
  · subst h0
    have hd : dec 0 = [48] := by simp [dec, dg_lt, dig]
    rw [hd]
    simp [ev, evFunc, evUn, evIndex, evCode, lexA, lexF, afterDraw, noClash, FP.clash, stepA, wantedA, evOp, rho, rhoL, ofC0, ofC, argsA, upd, afterRegion, putA, goOp, evBin, evBuiltin, evLen, evMin2, evMax2, evCallee, evBox, evLoad, evStore, evFieldAddr, evField, evIndexAddr, evBuild, evBuildSlice, nth, rdc, wrc, fromBody, resA, finRet, oneOf, AV.cells?, AV.isCell, AV.sealed, AV.sealedL, AV.strip, AV.stripL, AV.low, AV.lowL, boxEqL_refl, -ev, -evFunc, r0, r1, r2, r3, r4, cutC, bodyOf, Try.f31, bq2, fin_str]
  have hlen : (dg a.natAbs).length ≤ 20 := dg_len20 (by omega)
  have key : ∀ fs, RI a S (dg a.natAbs).length fs → ∃ r, iter n (evCode ⟨Try.prog, E.esc 31, n⟩ (ev Try.prog E n) (E.ps 31) n rLoop) fs = some r ∧ RQ a S r := fun fs h =>
    iter_meas (fun m fs h => rdec_round n a ha S m fs h) (dg a.natAbs).length n fs (by omega) h
  obtain ⟨F, hF⟩ := skolemR key
  have h0' : (a == 0) = false := by simp [h0]
  have hfs := hF ⟨upd 4 (.int .i64 a) (upd 8 (.int .i64 a) (upd 3 (.str []) (upd 7 (.bool false) (upd 6 (.int .i64 a) (upd 2 (.str []) (argsA [.int .i64 a])))))), fun _ => (0, []), 6, S⟩
    ⟨a, [], by simp [upd, argsA], by simp [upd], ha, by simp [upd], by simp [h0], by simp [h0], rfl⟩
  obtain ⟨hr, hq1, q0, q1, q2⟩ := hfs
  generalize F _ = r at *
  obtain ⟨o, t, b, v, S'⟩ := r
  simp at hq1 q0 q1 q2
  subst hq1 q2
  by_cases h : a < 0
  · have hd : dec a = 45 :: dg a.natAbs := by simp [dec, h]
    simp [ev, evFunc, evUn, evIndex, evCode, lexA, lexF, afterDraw, noClash, FP.clash, stepA, wantedA, evOp, rho, rhoL, ofC0, ofC, argsA, upd, afterRegion, putA, goOp, evBin, evBuiltin, evLen, evMin2, evMax2, evCallee, evBox, evLoad, evStore, evFieldAddr, evField, evIndexAddr, evBuild, evBuildSlice, nth, rdc, wrc, fromBody, resA, finRet, oneOf, AV.cells?, AV.isCell, AV.sealed, AV.sealedL, AV.strip, AV.stripL, AV.low, AV.lowL, boxEqL_refl, -ev, -evFunc, r0, r1, r2, r3, r4, cutC, bodyOf, Try.f31, hr, q0, q1, bq2, h, h0', hd, fin_str, show (dg a.natAbs).length + 1 ≤ 4611686018427387904 by omega, show 1 + (dg a.natAbs).length ≤ 4611686018427387904 by omega]
  · have hd : dec a = dg a.natAbs := by simp [dec, h]
    simp [ev, evFunc, evUn, evIndex, evCode, lexA, lexF, afterDraw, noClash, FP.clash, stepA, wantedA, evOp, rho, rhoL, ofC0, ofC, argsA, upd, afterRegion, putA, goOp, evBin, evBuiltin, evLen, evMin2, evMax2, evCallee, evBox, evLoad, evStore, evFieldAddr, evField, evIndexAddr, evBuild, evBuildSlice, nth, rdc, wrc, fromBody, resA, finRet, oneOf, AV.cells?, AV.isCell, AV.sealed, AV.sealedL, AV.strip, AV.stripL, AV.low, AV.lowL, boxEqL_refl, -ev, -evFunc, r0, r1, r2, r3, r4, cutC, bodyOf, Try.f31, hr, q0, q1, bq2, h, h0', hd, fin_str]
end Go.Proofs.Ytemggoaefohliaa.PT

/- Spans, quotes, words, signs, leaves, of both, evaluated. No condition. -/
namespace Go.Proofs.Ytemggoaefohliaa.PT
set_option linter.unusedVariables false
set_option linter.unusedSimpArgs false
open Go AE EX
set_option maxRecDepth 100000

theorem dec_len {a : Int} (h : in64 a) : (dec a).length ≤ 21 := by
  unfold in64 at h
  have := dg_len20 (u := a.natAbs) (by omega)
  unfold dec
  split <;> simp <;> omega

/-- a span's text -/
def spanT (lo hi : Int) : List UInt8 := 91 :: dec lo ++ 44 :: (if hi = -1 then [42] else dec hi) ++ [93]

theorem ev_Span (n : Nat) (hn : 31 ≤ n) (lo hi : Int) (h1 : in64 lo) (h2 : in64 hi) (S : St) : ev Try.prog E (n + 1) 13 [.int .i64 lo, .int .i64 hi] S = some (.ret (.str (spanT lo hi)), S) := by
  obtain ⟨n, rfl⟩ : ∃ k, n = k + 1 := ⟨n - 1, by omega⟩
  have d1 := ev_dec n (by omega) lo h1 S
  have d2 := ev_dec n (by omega) hi h2 S
  have l1 := dec_len h1
  have l2 := dec_len h2
  rw [ev_enter (n := n + 1) (show E.ok 13 = true from rfl) Try.func13 (fn := Try.f13) rfl (Nat.le_of_ble_eq_true rfl) (by decide +kernel)]
  by_cases h : hi = -1
  · have h' : (hi != -1) = false := by simp [h]
    subst h
    simp (disch := first | (simp only [List.length_append, List.length_cons, List.length_nil]; omega) | (simp; done) | assumption) [↓evOp_build, ↓evOp_bslice, rhoP_nil, rhoP_cons, evCode_skip, evCode_region, evCode_draw, evCode_seq, evCode_cond, evCode_block, evCode_loop, evCode_exit, evCode_ret, seqK_ite, seqK_none, seqK_norm, seqK_ret, seqK_exit, seqK_pan, condK_true, condK_false, condK_bool, blockK_ite, blockK_none, blockK_norm, blockK_ret, blockK_exit, blockK_pan, stepK_ite, stepK_none, stepK_ok, stepK_pan, drawK_ite, drawK_none, drawK_ok, drawK_pan, opK_ite, opK_none, opK_val, opK_pan, wantK_true, wantK_false, wantK_some, afterRegion_ite, afterDraw_ite, fromBody_ite, ite_bool, ite_int, stepA_K, doOp, noOp, lexA_nil, lexA_cons, lexF_nil, lexF_cons, afterDraw, noClash, FP.clash, wantedA, evOp, rho, rhoL, ofC0, ofC, argsA, upd, afterRegion, putA, goOp, evBin_add, evBin_sub, evBin_mul, evBin_quo, evBin_rem, evBin_eql, evBin_neq, evBin_lss, evBin_leq, evBin_gtr, evBin_geq, evBin_eqlB, evBin_neqB, evBin_addS, evBin_eqlS, evBin_neqS, evBin_lssS, evBin_leqS, evUn, evConv, evIndex, evBuiltin, evLen, evMin2, evMax2, evCallee, evBox, evLoad, evStore, evFieldAddr, evField, evIndexAddr, evBuild, evBuildSlice, evElems, evSlice, nth, rdc, wrc, fromBody, resA, finRet, oneOf, AV.cells?, AV.isCell, fin_int, fin_bool, fin_str, Try.f13, bq9, bq2, d1, h', spanT]
  · have h' : (hi != -1) = true := by simp [h]
    simp (disch := first | (simp only [List.length_append, List.length_cons, List.length_nil]; omega) | (simp; done) | assumption) [↓evOp_build, ↓evOp_bslice, rhoP_nil, rhoP_cons, evCode_skip, evCode_region, evCode_draw, evCode_seq, evCode_cond, evCode_block, evCode_loop, evCode_exit, evCode_ret, seqK_ite, seqK_none, seqK_norm, seqK_ret, seqK_exit, seqK_pan, condK_true, condK_false, condK_bool, blockK_ite, blockK_none, blockK_norm, blockK_ret, blockK_exit, blockK_pan, stepK_ite, stepK_none, stepK_ok, stepK_pan, drawK_ite, drawK_none, drawK_ok, drawK_pan, opK_ite, opK_none, opK_val, opK_pan, wantK_true, wantK_false, wantK_some, afterRegion_ite, afterDraw_ite, fromBody_ite, ite_bool, ite_int, stepA_K, doOp, noOp, lexA_nil, lexA_cons, lexF_nil, lexF_cons, afterDraw, noClash, FP.clash, wantedA, evOp, rho, rhoL, ofC0, ofC, argsA, upd, afterRegion, putA, goOp, evBin_add, evBin_sub, evBin_mul, evBin_quo, evBin_rem, evBin_eql, evBin_neq, evBin_lss, evBin_leq, evBin_gtr, evBin_geq, evBin_eqlB, evBin_neqB, evBin_addS, evBin_eqlS, evBin_neqS, evBin_lssS, evBin_leqS, evUn, evConv, evIndex, evBuiltin, evLen, evMin2, evMax2, evCallee, evBox, evLoad, evStore, evFieldAddr, evField, evIndexAddr, evBuild, evBuildSlice, evElems, evSlice, nth, rdc, wrc, fromBody, resA, finRet, oneOf, AV.cells?, AV.isCell, fin_int, fin_bool, fin_str, Try.f13, bq9, bq2, d1, d2, h', h, spanT]
theorem ev_rSpan (n : Nat) (hn : 31 ≤ n) (lo hi : Int) (h1 : in64 lo) (h2 : in64 hi) (S : St) : ev Try.prog E (n + 1) 14 [.int .i64 lo, .int .i64 hi] S = some (.ret (.str (spanT lo hi)), S) := by
  obtain ⟨n, rfl⟩ : ∃ k, n = k + 1 := ⟨n - 1, by omega⟩
  have d1 := ev_rdec n (by omega) lo h1 S
  have d2 := ev_rdec n (by omega) hi h2 S
  have l1 := dec_len h1
  have l2 := dec_len h2
  rw [ev_enter (n := n + 1) (show E.ok 14 = true from rfl) Try.func14 (fn := Try.f14) rfl (Nat.le_of_ble_eq_true rfl) (by decide +kernel)]
  by_cases h : hi = -1
  · have h' : (hi == -1) = true := by simp [h]
    subst h
    simp (disch := first | (simp only [List.length_append, List.length_cons, List.length_nil]; omega) | (simp; done) | assumption) [↓evOp_build, ↓evOp_bslice, rhoP_nil, rhoP_cons, evCode_skip, evCode_region, evCode_draw, evCode_seq, evCode_cond, evCode_block, evCode_loop, evCode_exit, evCode_ret, seqK_ite, seqK_none, seqK_norm, seqK_ret, seqK_exit, seqK_pan, condK_true, condK_false, condK_bool, blockK_ite, blockK_none, blockK_norm, blockK_ret, blockK_exit, blockK_pan, stepK_ite, stepK_none, stepK_ok, stepK_pan, drawK_ite, drawK_none, drawK_ok, drawK_pan, opK_ite, opK_none, opK_val, opK_pan, wantK_true, wantK_false, wantK_some, afterRegion_ite, afterDraw_ite, fromBody_ite, ite_bool, ite_int, stepA_K, doOp, noOp, lexA_nil, lexA_cons, lexF_nil, lexF_cons, afterDraw, noClash, FP.clash, wantedA, evOp, rho, rhoL, ofC0, ofC, argsA, upd, afterRegion, putA, goOp, evBin_add, evBin_sub, evBin_mul, evBin_quo, evBin_rem, evBin_eql, evBin_neq, evBin_lss, evBin_leq, evBin_gtr, evBin_geq, evBin_eqlB, evBin_neqB, evBin_addS, evBin_eqlS, evBin_neqS, evBin_lssS, evBin_leqS, evUn, evConv, evIndex, evBuiltin, evLen, evMin2, evMax2, evCallee, evBox, evLoad, evStore, evFieldAddr, evField, evIndexAddr, evBuild, evBuildSlice, evElems, evSlice, nth, rdc, wrc, fromBody, resA, finRet, oneOf, AV.cells?, AV.isCell, fin_int, fin_bool, fin_str, Try.f14, bq9, bq2, d1, h', spanT]
  · have h' : (hi == -1) = false := by simp [h]
    simp (disch := first | (simp only [List.length_append, List.length_cons, List.length_nil]; omega) | (simp; done) | assumption) [↓evOp_build, ↓evOp_bslice, rhoP_nil, rhoP_cons, evCode_skip, evCode_region, evCode_draw, evCode_seq, evCode_cond, evCode_block, evCode_loop, evCode_exit, evCode_ret, seqK_ite, seqK_none, seqK_norm, seqK_ret, seqK_exit, seqK_pan, condK_true, condK_false, condK_bool, blockK_ite, blockK_none, blockK_norm, blockK_ret, blockK_exit, blockK_pan, stepK_ite, stepK_none, stepK_ok, stepK_pan, drawK_ite, drawK_none, drawK_ok, drawK_pan, opK_ite, opK_none, opK_val, opK_pan, wantK_true, wantK_false, wantK_some, afterRegion_ite, afterDraw_ite, fromBody_ite, ite_bool, ite_int, stepA_K, doOp, noOp, lexA_nil, lexA_cons, lexF_nil, lexF_cons, afterDraw, noClash, FP.clash, wantedA, evOp, rho, rhoL, ofC0, ofC, argsA, upd, afterRegion, putA, goOp, evBin_add, evBin_sub, evBin_mul, evBin_quo, evBin_rem, evBin_eql, evBin_neq, evBin_lss, evBin_leq, evBin_gtr, evBin_geq, evBin_eqlB, evBin_neqB, evBin_addS, evBin_eqlS, evBin_neqS, evBin_lssS, evBin_leqS, evUn, evConv, evIndex, evBuiltin, evLen, evMin2, evMax2, evCallee, evBox, evLoad, evStore, evFieldAddr, evField, evIndexAddr, evBuild, evBuildSlice, evElems, evSlice, nth, rdc, wrc, fromBody, resA, finRet, oneOf, AV.cells?, AV.isCell, fin_int, fin_bool, fin_str, Try.f14, bq9, bq2, d1, d2, h', h, spanT]

def quoteT (s : List UInt8) : List UInt8 := 34 :: s ++ [34]
theorem ev_Quote (n : Nat) (s : List UInt8) (hs : s.length ≤ 1099511627776) (S : St) : ev Try.prog E (n + 1) 15 [.str s] S = some (.ret (.str (quoteT s)), S) := by
  rw [ev_enter (n := n) (show E.ok 15 = true from rfl) Try.func15 (fn := Try.f15) rfl (Nat.le_of_ble_eq_true rfl) (by decide +kernel)]
  simp (disch := first | (simp only [List.length_append, List.length_cons, List.length_nil]; omega) | (simp; done) | assumption) [↓evOp_build, ↓evOp_bslice, rhoP_nil, rhoP_cons, evCode_skip, evCode_region, evCode_draw, evCode_seq, evCode_cond, evCode_block, evCode_loop, evCode_exit, evCode_ret, seqK_ite, seqK_none, seqK_norm, seqK_ret, seqK_exit, seqK_pan, condK_true, condK_false, condK_bool, blockK_ite, blockK_none, blockK_norm, blockK_ret, blockK_exit, blockK_pan, stepK_ite, stepK_none, stepK_ok, stepK_pan, drawK_ite, drawK_none, drawK_ok, drawK_pan, opK_ite, opK_none, opK_val, opK_pan, wantK_true, wantK_false, wantK_some, afterRegion_ite, afterDraw_ite, fromBody_ite, ite_bool, ite_int, stepA_K, doOp, noOp, lexA_nil, lexA_cons, lexF_nil, lexF_cons, afterDraw, noClash, FP.clash, wantedA, evOp, rho, rhoL, ofC0, ofC, argsA, upd, afterRegion, putA, goOp, evBin_add, evBin_sub, evBin_mul, evBin_quo, evBin_rem, evBin_eql, evBin_neq, evBin_lss, evBin_leq, evBin_gtr, evBin_geq, evBin_eqlB, evBin_neqB, evBin_addS, evBin_eqlS, evBin_neqS, evBin_lssS, evBin_leqS, evUn, evConv, evIndex, evBuiltin, evLen, evMin2, evMax2, evCallee, evBox, evLoad, evStore, evFieldAddr, evField, evIndexAddr, evBuild, evBuildSlice, evElems, evSlice, nth, rdc, wrc, fromBody, resA, finRet, oneOf, AV.cells?, AV.isCell, fin_int, fin_bool, fin_str, Try.f15, bq9, quoteT]
end Go.Proofs.Ytemggoaefohliaa.PT

/- Words, signs, leaves, of both, evaluated. No condition. -/
namespace Go.Proofs.Ytemggoaefohliaa.PT
set_option linter.unusedVariables false
set_option linter.unusedSimpArgs false
open Go AE EX
set_option maxRecDepth 100000

def wordT (k : Int) : List UInt8 := if k = 12 then [108, 101, 110] else if k = 25 then [112, 114, 101, 118] else if k = 22 then [111, 110, 99, 101] else if k = 23 then [104, 105, 115, 116] else [115, 105, 110, 99, 101]
def signT (k : Int) : List UInt8 := if k = 8 then [43] else if k = 9 then [45] else if k = 10 then [42] else if k = 14 then [61] else if k = 15 then [60] else if k = 16 then [60, 61] else if k = 17 then [105, 110] else if k = 19 then [97, 110, 100] else [111, 114]
def leafT (k : Int) (nm : List UInt8) (n hi : Int) : List UInt8 :=
  if k = 1 then dec n else if k = 2 then (if n = 0 then [102, 97, 108, 115, 101] else [116, 114, 117, 101]) else if k = 3 then quoteT nm else if k = 5 then 115 :: 46 :: nm else if k = 6 then 111 :: 46 :: nm else
  if k = 13 then [116, 105, 109, 101, 115, 40] ++ nm ++ [44, 32] ++ dec hi ++ [41] else if k = 21 then [97, 99, 116, 40] ++ nm ++ [41] else [110, 111, 119]

theorem ev_word (n : Nat) (k : Int) (hk : k = 12 ∨ k = 25 ∨ k = 22 ∨ k = 23 ∨ k = 24) (S : St) : ev Try.prog E (n + 1) 38 [.int .i64 k] S = some (.ret (.str (wordT k)), S) := by
  rw [ev_enter (n := n) (show E.ok 38 = true from rfl) Try.func38 (fn := Try.f38) rfl (Nat.le_of_ble_eq_true rfl) (by decide +kernel)]
  rcases hk with rfl | rfl | rfl | rfl | rfl <;> simp (disch := first | (simp only [List.length_append, List.length_cons, List.length_nil]; omega) | (simp; done) | assumption) [↓evOp_build, ↓evOp_bslice, rhoP_nil, rhoP_cons, evCode_skip, evCode_region, evCode_draw, evCode_seq, evCode_cond, evCode_block, evCode_loop, evCode_exit, evCode_ret, seqK_ite, seqK_none, seqK_norm, seqK_ret, seqK_exit, seqK_pan, condK_true, condK_false, condK_bool, blockK_ite, blockK_none, blockK_norm, blockK_ret, blockK_exit, blockK_pan, stepK_ite, stepK_none, stepK_ok, stepK_pan, drawK_ite, drawK_none, drawK_ok, drawK_pan, opK_ite, opK_none, opK_val, opK_pan, wantK_true, wantK_false, wantK_some, afterRegion_ite, afterDraw_ite, fromBody_ite, ite_bool, ite_int, stepA_K, doOp, noOp, lexA_nil, lexA_cons, lexF_nil, lexF_cons, afterDraw, noClash, FP.clash, wantedA, evOp, rho, rhoL, ofC0, ofC, argsA, upd, afterRegion, putA, goOp, evBin_add, evBin_sub, evBin_mul, evBin_quo, evBin_rem, evBin_eql, evBin_neq, evBin_lss, evBin_leq, evBin_gtr, evBin_geq, evBin_eqlB, evBin_neqB, evBin_addS, evBin_eqlS, evBin_neqS, evBin_lssS, evBin_leqS, evUn, evConv, evIndex, evBuiltin, evLen, evMin2, evMax2, evCallee, evBox, evLoad, evStore, evFieldAddr, evField, evIndexAddr, evBuild, evBuildSlice, evElems, evSlice, nth, rdc, wrc, fromBody, resA, finRet, oneOf, AV.cells?, AV.isCell, fin_int, fin_bool, fin_str, Try.f38, bq3, wordT]

theorem ev_sign (n : Nat) (k : Int) (hk : k = 8 ∨ k = 9 ∨ k = 10 ∨ k = 14 ∨ k = 15 ∨ k = 16 ∨ k = 17 ∨ k = 19 ∨ k = 20) (S : St) : ev Try.prog E (n + 1) 39 [.int .i64 k] S = some (.ret (.str (signT k)), S) := by
  rw [ev_enter (n := n) (show E.ok 39 = true from rfl) Try.func39 (fn := Try.f39) rfl (Nat.le_of_ble_eq_true rfl) (by decide +kernel)]
  rcases hk with rfl | rfl | rfl | rfl | rfl | rfl | rfl | rfl | rfl <;> simp (disch := first | (simp only [List.length_append, List.length_cons, List.length_nil]; omega) | (simp; done) | assumption) [↓evOp_build, ↓evOp_bslice, rhoP_nil, rhoP_cons, evCode_skip, evCode_region, evCode_draw, evCode_seq, evCode_cond, evCode_block, evCode_loop, evCode_exit, evCode_ret, seqK_ite, seqK_none, seqK_norm, seqK_ret, seqK_exit, seqK_pan, condK_true, condK_false, condK_bool, blockK_ite, blockK_none, blockK_norm, blockK_ret, blockK_exit, blockK_pan, stepK_ite, stepK_none, stepK_ok, stepK_pan, drawK_ite, drawK_none, drawK_ok, drawK_pan, opK_ite, opK_none, opK_val, opK_pan, wantK_true, wantK_false, wantK_some, afterRegion_ite, afterDraw_ite, fromBody_ite, ite_bool, ite_int, stepA_K, doOp, noOp, lexA_nil, lexA_cons, lexF_nil, lexF_cons, afterDraw, noClash, FP.clash, wantedA, evOp, rho, rhoL, ofC0, ofC, argsA, upd, afterRegion, putA, goOp, evBin_add, evBin_sub, evBin_mul, evBin_quo, evBin_rem, evBin_eql, evBin_neq, evBin_lss, evBin_leq, evBin_gtr, evBin_geq, evBin_eqlB, evBin_neqB, evBin_addS, evBin_eqlS, evBin_neqS, evBin_lssS, evBin_leqS, evUn, evConv, evIndex, evBuiltin, evLen, evMin2, evMax2, evCallee, evBox, evLoad, evStore, evFieldAddr, evField, evIndexAddr, evBuild, evBuildSlice, evElems, evSlice, nth, rdc, wrc, fromBody, resA, finRet, oneOf, AV.cells?, AV.isCell, fin_int, fin_bool, fin_str, Try.f39, bq3, signT]

def isLeaf (k : Int) : Prop := k = 1 ∨ k = 2 ∨ k = 3 ∨ k = 5 ∨ k = 6 ∨ k = 7 ∨ k = 13 ∨ k = 21

theorem k9 : knownQ Try.prog 9 = true := by kernel_rfl
theorem a9 : aggQ Try.prog 9 = false := by kernel_rfl
theorem fq1 : fieldQ Try.prog 24 1 = some (1, 1, false) := by kernel_rfl
theorem fq2 : fieldQ Try.prog 24 2 = some (2, 1, false) := by kernel_rfl
theorem fq3 : fieldQ Try.prog 24 3 = some (3, 1, false) := by kernel_rfl
theorem E_esc (f d : Nat) : E.esc f d = false := rfl

theorem ev_leaf (m : Nat) (hm : 31 ≤ m) (k : Int) (nm : List UInt8) (n lo hi : Int) (ks : AV) (hks : ks.isCell = true) (hk : isLeaf k) (h1 : in64 n) (h2 : in64 hi) (hl : nm.length ≤ 1099511627776) (S : St) :
    ev Try.prog E (m + 1) 40 [.agg [.int .i64 k, .str nm, .int .i64 n, .int .i64 lo, .int .i64 hi, ks]] S = some (.ret (.str (leafT k nm n hi)), S) := by
  obtain ⟨m, rfl⟩ : ∃ k, m = k + 1 := ⟨m - 1, by omega⟩
  have d1 := ev_dec m (by omega) n h1 S
  have d2 := ev_dec m (by omega) hi h2 S
  have q1 := ev_Quote m nm hl S
  have l2 := dec_len h2
  rw [ev_enter (n := m + 1) (show E.ok 40 = true from rfl) Try.func40 (fn := Try.f40) rfl (Nat.le_of_ble_eq_true rfl) (by decide +kernel)]
  have hp : E.ps 40 15 = [(1, 5), (1, 6)] := rfl
  rcases hk with rfl | rfl | rfl | rfl | rfl | rfl | rfl | rfl
  · simp (disch := first | (simp only [List.length_append, List.length_cons, List.length_nil]; omega) | (simp; done) | assumption) [↓evOp_build, ↓evOp_bslice, rhoP_nil, rhoP_cons, evCode_skip, evCode_region, evCode_draw, evCode_seq, evCode_cond, evCode_block, evCode_loop, evCode_exit, evCode_ret, seqK_ite, seqK_none, seqK_norm, seqK_ret, seqK_exit, seqK_pan, condK_true, condK_false, condK_bool, blockK_ite, blockK_none, blockK_norm, blockK_ret, blockK_exit, blockK_pan, stepK_ite, stepK_none, stepK_ok, stepK_pan, drawK_ite, drawK_none, drawK_ok, drawK_pan, opK_ite, opK_none, opK_val, opK_pan, wantK_true, wantK_false, wantK_some, afterRegion_ite, afterDraw_ite, fromBody_ite, ite_bool, ite_int, stepA_K, doOp, noOp, lexA_nil, lexA_cons, lexF_nil, lexF_cons, afterDraw, noClash, FP.clash, wantedA, evOp, rho, rhoL, ofC0, ofC, argsA, upd, afterRegion, putA, goOp, evBin_add, evBin_sub, evBin_mul, evBin_quo, evBin_rem, evBin_eql, evBin_neq, evBin_lss, evBin_leq, evBin_gtr, evBin_geq, evBin_eqlB, evBin_neqB, evBin_addS, evBin_eqlS, evBin_neqS, evBin_lssS, evBin_leqS, evUn, evConv, evIndex, evBuiltin, evLen, evMin2, evMax2, evCallee, evBox, evLoad, evStore, evFieldAddr, evField, evIndexAddr, evBuild, evBuildSlice, evElems, evSlice, nth, rdc, wrc, fromBody, resA, finRet, oneOf, AV.cells?, AV.isCell, fin_int, fin_bool, fin_str, Try.f40, E_esc, c24, a24, k24, fq0, fq1, fq2, fq4, k3, c3, a3, k2, c2, a2, k9, a9, c9, hks, -AV.isCell, leafT, d1]
  · by_cases h : n = 0
    · subst h
      simp (disch := first | (simp only [List.length_append, List.length_cons, List.length_nil]; omega) | (simp; done) | assumption) [↓evOp_build, ↓evOp_bslice, rhoP_nil, rhoP_cons, evCode_skip, evCode_region, evCode_draw, evCode_seq, evCode_cond, evCode_block, evCode_loop, evCode_exit, evCode_ret, seqK_ite, seqK_none, seqK_norm, seqK_ret, seqK_exit, seqK_pan, condK_true, condK_false, condK_bool, blockK_ite, blockK_none, blockK_norm, blockK_ret, blockK_exit, blockK_pan, stepK_ite, stepK_none, stepK_ok, stepK_pan, drawK_ite, drawK_none, drawK_ok, drawK_pan, opK_ite, opK_none, opK_val, opK_pan, wantK_true, wantK_false, wantK_some, afterRegion_ite, afterDraw_ite, fromBody_ite, ite_bool, ite_int, stepA_K, doOp, noOp, lexA_nil, lexA_cons, lexF_nil, lexF_cons, afterDraw, noClash, FP.clash, wantedA, evOp, rho, rhoL, ofC0, ofC, argsA, upd, afterRegion, putA, goOp, evBin_add, evBin_sub, evBin_mul, evBin_quo, evBin_rem, evBin_eql, evBin_neq, evBin_lss, evBin_leq, evBin_gtr, evBin_geq, evBin_eqlB, evBin_neqB, evBin_addS, evBin_eqlS, evBin_neqS, evBin_lssS, evBin_leqS, evUn, evConv, evIndex, evBuiltin, evLen, evMin2, evMax2, evCallee, evBox, evLoad, evStore, evFieldAddr, evField, evIndexAddr, evBuild, evBuildSlice, evElems, evSlice, nth, rdc, wrc, fromBody, resA, finRet, oneOf, AV.cells?, AV.isCell, fin_int, fin_bool, fin_str, Try.f40, E_esc, c24, a24, k24, fq0, fq1, fq2, fq4, k3, c3, a3, k2, c2, a2, k9, a9, c9, hks, -AV.isCell, leafT]
    · have h' : (n == 0) = false := by simp [h]
      simp (disch := first | (simp only [List.length_append, List.length_cons, List.length_nil]; omega) | (simp; done) | assumption) [↓evOp_build, ↓evOp_bslice, rhoP_nil, rhoP_cons, evCode_skip, evCode_region, evCode_draw, evCode_seq, evCode_cond, evCode_block, evCode_loop, evCode_exit, evCode_ret, seqK_ite, seqK_none, seqK_norm, seqK_ret, seqK_exit, seqK_pan, condK_true, condK_false, condK_bool, blockK_ite, blockK_none, blockK_norm, blockK_ret, blockK_exit, blockK_pan, stepK_ite, stepK_none, stepK_ok, stepK_pan, drawK_ite, drawK_none, drawK_ok, drawK_pan, opK_ite, opK_none, opK_val, opK_pan, wantK_true, wantK_false, wantK_some, afterRegion_ite, afterDraw_ite, fromBody_ite, ite_bool, ite_int, stepA_K, doOp, noOp, lexA_nil, lexA_cons, lexF_nil, lexF_cons, afterDraw, noClash, FP.clash, wantedA, evOp, rho, rhoL, ofC0, ofC, argsA, upd, afterRegion, putA, goOp, evBin_add, evBin_sub, evBin_mul, evBin_quo, evBin_rem, evBin_eql, evBin_neq, evBin_lss, evBin_leq, evBin_gtr, evBin_geq, evBin_eqlB, evBin_neqB, evBin_addS, evBin_eqlS, evBin_neqS, evBin_lssS, evBin_leqS, evUn, evConv, evIndex, evBuiltin, evLen, evMin2, evMax2, evCallee, evBox, evLoad, evStore, evFieldAddr, evField, evIndexAddr, evBuild, evBuildSlice, evElems, evSlice, nth, rdc, wrc, fromBody, resA, finRet, oneOf, AV.cells?, AV.isCell, fin_int, fin_bool, fin_str, Try.f40, E_esc, c24, a24, k24, fq0, fq1, fq2, fq4, k3, c3, a3, k2, c2, a2, k9, a9, c9, hks, -AV.isCell, leafT, h, h']
  · simp (disch := first | (simp only [List.length_append, List.length_cons, List.length_nil]; omega) | (simp; done) | assumption) [↓evOp_build, ↓evOp_bslice, rhoP_nil, rhoP_cons, evCode_skip, evCode_region, evCode_draw, evCode_seq, evCode_cond, evCode_block, evCode_loop, evCode_exit, evCode_ret, seqK_ite, seqK_none, seqK_norm, seqK_ret, seqK_exit, seqK_pan, condK_true, condK_false, condK_bool, blockK_ite, blockK_none, blockK_norm, blockK_ret, blockK_exit, blockK_pan, stepK_ite, stepK_none, stepK_ok, stepK_pan, drawK_ite, drawK_none, drawK_ok, drawK_pan, opK_ite, opK_none, opK_val, opK_pan, wantK_true, wantK_false, wantK_some, afterRegion_ite, afterDraw_ite, fromBody_ite, ite_bool, ite_int, stepA_K, doOp, noOp, lexA_nil, lexA_cons, lexF_nil, lexF_cons, afterDraw, noClash, FP.clash, wantedA, evOp, rho, rhoL, ofC0, ofC, argsA, upd, afterRegion, putA, goOp, evBin_add, evBin_sub, evBin_mul, evBin_quo, evBin_rem, evBin_eql, evBin_neq, evBin_lss, evBin_leq, evBin_gtr, evBin_geq, evBin_eqlB, evBin_neqB, evBin_addS, evBin_eqlS, evBin_neqS, evBin_lssS, evBin_leqS, evUn, evConv, evIndex, evBuiltin, evLen, evMin2, evMax2, evCallee, evBox, evLoad, evStore, evFieldAddr, evField, evIndexAddr, evBuild, evBuildSlice, evElems, evSlice, nth, rdc, wrc, fromBody, resA, finRet, oneOf, AV.cells?, AV.isCell, fin_int, fin_bool, fin_str, Try.f40, E_esc, c24, a24, k24, fq0, fq1, fq2, fq4, k3, c3, a3, k2, c2, a2, k9, a9, c9, hks, -AV.isCell, leafT, q1]
  · simp (disch := first | (simp only [List.length_append, List.length_cons, List.length_nil]; omega) | (simp; done) | assumption) [↓evOp_build, ↓evOp_bslice, rhoP_nil, rhoP_cons, evCode_skip, evCode_region, evCode_draw, evCode_seq, evCode_cond, evCode_block, evCode_loop, evCode_exit, evCode_ret, seqK_ite, seqK_none, seqK_norm, seqK_ret, seqK_exit, seqK_pan, condK_true, condK_false, condK_bool, blockK_ite, blockK_none, blockK_norm, blockK_ret, blockK_exit, blockK_pan, stepK_ite, stepK_none, stepK_ok, stepK_pan, drawK_ite, drawK_none, drawK_ok, drawK_pan, opK_ite, opK_none, opK_val, opK_pan, wantK_true, wantK_false, wantK_some, afterRegion_ite, afterDraw_ite, fromBody_ite, ite_bool, ite_int, stepA_K, doOp, noOp, lexA_nil, lexA_cons, lexF_nil, lexF_cons, afterDraw, noClash, FP.clash, wantedA, evOp, rho, rhoL, ofC0, ofC, argsA, upd, afterRegion, putA, goOp, evBin_add, evBin_sub, evBin_mul, evBin_quo, evBin_rem, evBin_eql, evBin_neq, evBin_lss, evBin_leq, evBin_gtr, evBin_geq, evBin_eqlB, evBin_neqB, evBin_addS, evBin_eqlS, evBin_neqS, evBin_lssS, evBin_leqS, evUn, evConv, evIndex, evBuiltin, evLen, evMin2, evMax2, evCallee, evBox, evLoad, evStore, evFieldAddr, evField, evIndexAddr, evBuild, evBuildSlice, evElems, evSlice, nth, rdc, wrc, fromBody, resA, finRet, oneOf, AV.cells?, AV.isCell, fin_int, fin_bool, fin_str, Try.f40, E_esc, c24, a24, k24, fq0, fq1, fq2, fq4, k3, c3, a3, k2, c2, a2, k9, a9, c9, hks, -AV.isCell, leafT]
  · simp (disch := first | (simp only [List.length_append, List.length_cons, List.length_nil]; omega) | (simp; done) | assumption) [↓evOp_build, ↓evOp_bslice, rhoP_nil, rhoP_cons, evCode_skip, evCode_region, evCode_draw, evCode_seq, evCode_cond, evCode_block, evCode_loop, evCode_exit, evCode_ret, seqK_ite, seqK_none, seqK_norm, seqK_ret, seqK_exit, seqK_pan, condK_true, condK_false, condK_bool, blockK_ite, blockK_none, blockK_norm, blockK_ret, blockK_exit, blockK_pan, stepK_ite, stepK_none, stepK_ok, stepK_pan, drawK_ite, drawK_none, drawK_ok, drawK_pan, opK_ite, opK_none, opK_val, opK_pan, wantK_true, wantK_false, wantK_some, afterRegion_ite, afterDraw_ite, fromBody_ite, ite_bool, ite_int, stepA_K, doOp, noOp, lexA_nil, lexA_cons, lexF_nil, lexF_cons, afterDraw, noClash, FP.clash, wantedA, evOp, rho, rhoL, ofC0, ofC, argsA, upd, afterRegion, putA, goOp, evBin_add, evBin_sub, evBin_mul, evBin_quo, evBin_rem, evBin_eql, evBin_neq, evBin_lss, evBin_leq, evBin_gtr, evBin_geq, evBin_eqlB, evBin_neqB, evBin_addS, evBin_eqlS, evBin_neqS, evBin_lssS, evBin_leqS, evUn, evConv, evIndex, evBuiltin, evLen, evMin2, evMax2, evCallee, evBox, evLoad, evStore, evFieldAddr, evField, evIndexAddr, evBuild, evBuildSlice, evElems, evSlice, nth, rdc, wrc, fromBody, resA, finRet, oneOf, AV.cells?, AV.isCell, fin_int, fin_bool, fin_str, Try.f40, E_esc, c24, a24, k24, fq0, fq1, fq2, fq4, k3, c3, a3, k2, c2, a2, k9, a9, c9, hks, -AV.isCell, leafT]
  · simp (disch := first | (simp only [List.length_append, List.length_cons, List.length_nil]; omega) | (simp; done) | assumption) [↓evOp_build, ↓evOp_bslice, rhoP_nil, rhoP_cons, evCode_skip, evCode_region, evCode_draw, evCode_seq, evCode_cond, evCode_block, evCode_loop, evCode_exit, evCode_ret, seqK_ite, seqK_none, seqK_norm, seqK_ret, seqK_exit, seqK_pan, condK_true, condK_false, condK_bool, blockK_ite, blockK_none, blockK_norm, blockK_ret, blockK_exit, blockK_pan, stepK_ite, stepK_none, stepK_ok, stepK_pan, drawK_ite, drawK_none, drawK_ok, drawK_pan, opK_ite, opK_none, opK_val, opK_pan, wantK_true, wantK_false, wantK_some, afterRegion_ite, afterDraw_ite, fromBody_ite, ite_bool, ite_int, stepA_K, doOp, noOp, lexA_nil, lexA_cons, lexF_nil, lexF_cons, afterDraw, noClash, FP.clash, wantedA, evOp, rho, rhoL, ofC0, ofC, argsA, upd, afterRegion, putA, goOp, evBin_add, evBin_sub, evBin_mul, evBin_quo, evBin_rem, evBin_eql, evBin_neq, evBin_lss, evBin_leq, evBin_gtr, evBin_geq, evBin_eqlB, evBin_neqB, evBin_addS, evBin_eqlS, evBin_neqS, evBin_lssS, evBin_leqS, evUn, evConv, evIndex, evBuiltin, evLen, evMin2, evMax2, evCallee, evBox, evLoad, evStore, evFieldAddr, evField, evIndexAddr, evBuild, evBuildSlice, evElems, evSlice, nth, rdc, wrc, fromBody, resA, finRet, oneOf, AV.cells?, AV.isCell, fin_int, fin_bool, fin_str, Try.f40, E_esc, c24, a24, k24, fq0, fq1, fq2, fq4, k3, c3, a3, k2, c2, a2, k9, a9, c9, hks, -AV.isCell, leafT]
  · simp (disch := first | (simp only [List.length_append, List.length_cons, List.length_nil]; omega) | (simp; done) | assumption) [↓evOp_build, ↓evOp_bslice, rhoP_nil, rhoP_cons, evCode_skip, evCode_region, evCode_draw, evCode_seq, evCode_cond, evCode_block, evCode_loop, evCode_exit, evCode_ret, seqK_ite, seqK_none, seqK_norm, seqK_ret, seqK_exit, seqK_pan, condK_true, condK_false, condK_bool, blockK_ite, blockK_none, blockK_norm, blockK_ret, blockK_exit, blockK_pan, stepK_ite, stepK_none, stepK_ok, stepK_pan, drawK_ite, drawK_none, drawK_ok, drawK_pan, opK_ite, opK_none, opK_val, opK_pan, wantK_true, wantK_false, wantK_some, afterRegion_ite, afterDraw_ite, fromBody_ite, ite_bool, ite_int, stepA_K, doOp, noOp, lexA_nil, lexA_cons, lexF_nil, lexF_cons, afterDraw, noClash, FP.clash, wantedA, evOp, rho, rhoL, ofC0, ofC, argsA, upd, afterRegion, putA, goOp, evBin_add, evBin_sub, evBin_mul, evBin_quo, evBin_rem, evBin_eql, evBin_neq, evBin_lss, evBin_leq, evBin_gtr, evBin_geq, evBin_eqlB, evBin_neqB, evBin_addS, evBin_eqlS, evBin_neqS, evBin_lssS, evBin_leqS, evUn, evConv, evIndex, evBuiltin, evLen, evMin2, evMax2, evCallee, evBox, evLoad, evStore, evFieldAddr, evField, evIndexAddr, evBuild, evBuildSlice, evElems, evSlice, nth, rdc, wrc, fromBody, resA, finRet, oneOf, AV.cells?, AV.isCell, fin_int, fin_bool, fin_str, Try.f40, E_esc, c24, a24, k24, fq0, fq1, fq2, fq4, k3, c3, a3, k2, c2, a2, k9, a9, c9, hks, -AV.isCell, leafT, d2, hp]
  · simp (disch := first | (simp only [List.length_append, List.length_cons, List.length_nil]; omega) | (simp; done) | assumption) [↓evOp_build, ↓evOp_bslice, rhoP_nil, rhoP_cons, evCode_skip, evCode_region, evCode_draw, evCode_seq, evCode_cond, evCode_block, evCode_loop, evCode_exit, evCode_ret, seqK_ite, seqK_none, seqK_norm, seqK_ret, seqK_exit, seqK_pan, condK_true, condK_false, condK_bool, blockK_ite, blockK_none, blockK_norm, blockK_ret, blockK_exit, blockK_pan, stepK_ite, stepK_none, stepK_ok, stepK_pan, drawK_ite, drawK_none, drawK_ok, drawK_pan, opK_ite, opK_none, opK_val, opK_pan, wantK_true, wantK_false, wantK_some, afterRegion_ite, afterDraw_ite, fromBody_ite, ite_bool, ite_int, stepA_K, doOp, noOp, lexA_nil, lexA_cons, lexF_nil, lexF_cons, afterDraw, noClash, FP.clash, wantedA, evOp, rho, rhoL, ofC0, ofC, argsA, upd, afterRegion, putA, goOp, evBin_add, evBin_sub, evBin_mul, evBin_quo, evBin_rem, evBin_eql, evBin_neq, evBin_lss, evBin_leq, evBin_gtr, evBin_geq, evBin_eqlB, evBin_neqB, evBin_addS, evBin_eqlS, evBin_neqS, evBin_lssS, evBin_leqS, evUn, evConv, evIndex, evBuiltin, evLen, evMin2, evMax2, evCallee, evBox, evLoad, evStore, evFieldAddr, evField, evIndexAddr, evBuild, evBuildSlice, evElems, evSlice, nth, rdc, wrc, fromBody, resA, finRet, oneOf, AV.cells?, AV.isCell, fin_int, fin_bool, fin_str, Try.f40, E_esc, c24, a24, k24, fq0, fq1, fq2, fq4, k3, c3, a3, k2, c2, a2, k9, a9, c9, hks, -AV.isCell, leafT]
end Go.Proofs.Ytemggoaefohliaa.PT

/- The page's leaves, fronts and signs, evaluated. No condition. -/
namespace Go.Proofs.Ytemggoaefohliaa.PT
set_option linter.unusedVariables false
set_option linter.unusedSimpArgs false
open Go AE EX
set_option maxRecDepth 100000

theorem ev_rleaf (m : Nat) (hm : 31 ≤ m) (k : Int) (nm : List UInt8) (n lo hi : Int) (ks : AV) (hks : ks.isCell = true) (hk : isLeaf k) (hb : k = 2 → n = 0 ∨ n = 1) (h1 : in64 n) (h2 : in64 hi) (hl : nm.length ≤ 1099511627776) (S : St) :
    ev Try.prog E (m + 1) 42 [.agg [.int .i64 k, .str nm, .int .i64 n, .int .i64 lo, .int .i64 hi, ks]] S = some (.ret (.str (leafT k nm n hi)), S) := by
  obtain ⟨m, rfl⟩ : ∃ k, m = k + 1 := ⟨m - 1, by omega⟩
  have d1 := ev_rdec m (by omega) n h1 S
  have d2 := ev_rdec m (by omega) hi h2 S
  have l2 := dec_len h2
  rw [ev_enter (n := m + 1) (show E.ok 42 = true from rfl) Try.func42 (fn := Try.f42) rfl (Nat.le_of_ble_eq_true rfl) (by decide +kernel)]
  have hp : E.ps 42 14 = [(1, 5), (1, 6)] := rfl
  rcases hk with rfl | rfl | rfl | rfl | rfl | rfl | rfl | rfl
  · simp (disch := first | (simp only [List.length_append, List.length_cons, List.length_nil]; omega) | (simp; done) | assumption) [↓evOp_build, ↓evOp_bslice, rhoP_nil, rhoP_cons, evCode_skip, evCode_region, evCode_draw, evCode_seq, evCode_cond, evCode_block, evCode_loop, evCode_exit, evCode_ret, seqK_ite, seqK_none, seqK_norm, seqK_ret, seqK_exit, seqK_pan, condK_true, condK_false, condK_bool, blockK_ite, blockK_none, blockK_norm, blockK_ret, blockK_exit, blockK_pan, stepK_ite, stepK_none, stepK_ok, stepK_pan, drawK_ite, drawK_none, drawK_ok, drawK_pan, opK_ite, opK_none, opK_val, opK_pan, wantK_true, wantK_false, wantK_some, afterRegion_ite, afterDraw_ite, fromBody_ite, ite_bool, ite_int, stepA_K, doOp, noOp, lexA_nil, lexA_cons, lexF_nil, lexF_cons, afterDraw, noClash, FP.clash, wantedA, evOp, rho, rhoL, ofC0, ofC, argsA, upd, afterRegion, putA, goOp, evBin_add, evBin_sub, evBin_mul, evBin_quo, evBin_rem, evBin_eql, evBin_neq, evBin_lss, evBin_leq, evBin_gtr, evBin_geq, evBin_eqlB, evBin_neqB, evBin_addS, evBin_eqlS, evBin_neqS, evBin_lssS, evBin_leqS, evUn, evConv, evIndex, evBuiltin, evLen, evMin2, evMax2, evCallee, evBox, evLoad, evStore, evFieldAddr, evField, evIndexAddr, evBuild, evBuildSlice, evElems, evSlice, nth, rdc, wrc, fromBody, resA, finRet, oneOf, AV.cells?, AV.isCell, fin_int, fin_bool, fin_str, Try.f42, E_esc, c24, a24, k24, fq0, fq1, fq2, fq4, k3, c3, a3, k2, c2, a2, k9, a9, c9, hks, -AV.isCell, leafT, d1]
  · rcases hb rfl with rfl | rfl <;> simp (disch := first | (simp only [List.length_append, List.length_cons, List.length_nil]; omega) | (simp; done) | assumption) [↓evOp_build, ↓evOp_bslice, rhoP_nil, rhoP_cons, evCode_skip, evCode_region, evCode_draw, evCode_seq, evCode_cond, evCode_block, evCode_loop, evCode_exit, evCode_ret, seqK_ite, seqK_none, seqK_norm, seqK_ret, seqK_exit, seqK_pan, condK_true, condK_false, condK_bool, blockK_ite, blockK_none, blockK_norm, blockK_ret, blockK_exit, blockK_pan, stepK_ite, stepK_none, stepK_ok, stepK_pan, drawK_ite, drawK_none, drawK_ok, drawK_pan, opK_ite, opK_none, opK_val, opK_pan, wantK_true, wantK_false, wantK_some, afterRegion_ite, afterDraw_ite, fromBody_ite, ite_bool, ite_int, stepA_K, doOp, noOp, lexA_nil, lexA_cons, lexF_nil, lexF_cons, afterDraw, noClash, FP.clash, wantedA, evOp, rho, rhoL, ofC0, ofC, argsA, upd, afterRegion, putA, goOp, evBin_add, evBin_sub, evBin_mul, evBin_quo, evBin_rem, evBin_eql, evBin_neq, evBin_lss, evBin_leq, evBin_gtr, evBin_geq, evBin_eqlB, evBin_neqB, evBin_addS, evBin_eqlS, evBin_neqS, evBin_lssS, evBin_leqS, evUn, evConv, evIndex, evBuiltin, evLen, evMin2, evMax2, evCallee, evBox, evLoad, evStore, evFieldAddr, evField, evIndexAddr, evBuild, evBuildSlice, evElems, evSlice, nth, rdc, wrc, fromBody, resA, finRet, oneOf, AV.cells?, AV.isCell, fin_int, fin_bool, fin_str, Try.f42, E_esc, c24, a24, k24, fq0, fq1, fq2, fq4, k3, c3, a3, k2, c2, a2, k9, a9, c9, hks, -AV.isCell, leafT]
  · simp (disch := first | (simp only [List.length_append, List.length_cons, List.length_nil]; omega) | (simp; done) | assumption) [↓evOp_build, ↓evOp_bslice, rhoP_nil, rhoP_cons, evCode_skip, evCode_region, evCode_draw, evCode_seq, evCode_cond, evCode_block, evCode_loop, evCode_exit, evCode_ret, seqK_ite, seqK_none, seqK_norm, seqK_ret, seqK_exit, seqK_pan, condK_true, condK_false, condK_bool, blockK_ite, blockK_none, blockK_norm, blockK_ret, blockK_exit, blockK_pan, stepK_ite, stepK_none, stepK_ok, stepK_pan, drawK_ite, drawK_none, drawK_ok, drawK_pan, opK_ite, opK_none, opK_val, opK_pan, wantK_true, wantK_false, wantK_some, afterRegion_ite, afterDraw_ite, fromBody_ite, ite_bool, ite_int, stepA_K, doOp, noOp, lexA_nil, lexA_cons, lexF_nil, lexF_cons, afterDraw, noClash, FP.clash, wantedA, evOp, rho, rhoL, ofC0, ofC, argsA, upd, afterRegion, putA, goOp, evBin_add, evBin_sub, evBin_mul, evBin_quo, evBin_rem, evBin_eql, evBin_neq, evBin_lss, evBin_leq, evBin_gtr, evBin_geq, evBin_eqlB, evBin_neqB, evBin_addS, evBin_eqlS, evBin_neqS, evBin_lssS, evBin_leqS, evUn, evConv, evIndex, evBuiltin, evLen, evMin2, evMax2, evCallee, evBox, evLoad, evStore, evFieldAddr, evField, evIndexAddr, evBuild, evBuildSlice, evElems, evSlice, nth, rdc, wrc, fromBody, resA, finRet, oneOf, AV.cells?, AV.isCell, fin_int, fin_bool, fin_str, Try.f42, E_esc, c24, a24, k24, fq0, fq1, fq2, fq4, k3, c3, a3, k2, c2, a2, k9, a9, c9, hks, -AV.isCell, leafT, quoteT]
  · simp (disch := first | (simp only [List.length_append, List.length_cons, List.length_nil]; omega) | (simp; done) | assumption) [↓evOp_build, ↓evOp_bslice, rhoP_nil, rhoP_cons, evCode_skip, evCode_region, evCode_draw, evCode_seq, evCode_cond, evCode_block, evCode_loop, evCode_exit, evCode_ret, seqK_ite, seqK_none, seqK_norm, seqK_ret, seqK_exit, seqK_pan, condK_true, condK_false, condK_bool, blockK_ite, blockK_none, blockK_norm, blockK_ret, blockK_exit, blockK_pan, stepK_ite, stepK_none, stepK_ok, stepK_pan, drawK_ite, drawK_none, drawK_ok, drawK_pan, opK_ite, opK_none, opK_val, opK_pan, wantK_true, wantK_false, wantK_some, afterRegion_ite, afterDraw_ite, fromBody_ite, ite_bool, ite_int, stepA_K, doOp, noOp, lexA_nil, lexA_cons, lexF_nil, lexF_cons, afterDraw, noClash, FP.clash, wantedA, evOp, rho, rhoL, ofC0, ofC, argsA, upd, afterRegion, putA, goOp, evBin_add, evBin_sub, evBin_mul, evBin_quo, evBin_rem, evBin_eql, evBin_neq, evBin_lss, evBin_leq, evBin_gtr, evBin_geq, evBin_eqlB, evBin_neqB, evBin_addS, evBin_eqlS, evBin_neqS, evBin_lssS, evBin_leqS, evUn, evConv, evIndex, evBuiltin, evLen, evMin2, evMax2, evCallee, evBox, evLoad, evStore, evFieldAddr, evField, evIndexAddr, evBuild, evBuildSlice, evElems, evSlice, nth, rdc, wrc, fromBody, resA, finRet, oneOf, AV.cells?, AV.isCell, fin_int, fin_bool, fin_str, Try.f42, E_esc, c24, a24, k24, fq0, fq1, fq2, fq4, k3, c3, a3, k2, c2, a2, k9, a9, c9, hks, -AV.isCell, leafT]
  · simp (disch := first | (simp only [List.length_append, List.length_cons, List.length_nil]; omega) | (simp; done) | assumption) [↓evOp_build, ↓evOp_bslice, rhoP_nil, rhoP_cons, evCode_skip, evCode_region, evCode_draw, evCode_seq, evCode_cond, evCode_block, evCode_loop, evCode_exit, evCode_ret, seqK_ite, seqK_none, seqK_norm, seqK_ret, seqK_exit, seqK_pan, condK_true, condK_false, condK_bool, blockK_ite, blockK_none, blockK_norm, blockK_ret, blockK_exit, blockK_pan, stepK_ite, stepK_none, stepK_ok, stepK_pan, drawK_ite, drawK_none, drawK_ok, drawK_pan, opK_ite, opK_none, opK_val, opK_pan, wantK_true, wantK_false, wantK_some, afterRegion_ite, afterDraw_ite, fromBody_ite, ite_bool, ite_int, stepA_K, doOp, noOp, lexA_nil, lexA_cons, lexF_nil, lexF_cons, afterDraw, noClash, FP.clash, wantedA, evOp, rho, rhoL, ofC0, ofC, argsA, upd, afterRegion, putA, goOp, evBin_add, evBin_sub, evBin_mul, evBin_quo, evBin_rem, evBin_eql, evBin_neq, evBin_lss, evBin_leq, evBin_gtr, evBin_geq, evBin_eqlB, evBin_neqB, evBin_addS, evBin_eqlS, evBin_neqS, evBin_lssS, evBin_leqS, evUn, evConv, evIndex, evBuiltin, evLen, evMin2, evMax2, evCallee, evBox, evLoad, evStore, evFieldAddr, evField, evIndexAddr, evBuild, evBuildSlice, evElems, evSlice, nth, rdc, wrc, fromBody, resA, finRet, oneOf, AV.cells?, AV.isCell, fin_int, fin_bool, fin_str, Try.f42, E_esc, c24, a24, k24, fq0, fq1, fq2, fq4, k3, c3, a3, k2, c2, a2, k9, a9, c9, hks, -AV.isCell, leafT]
  · simp (disch := first | (simp only [List.length_append, List.length_cons, List.length_nil]; omega) | (simp; done) | assumption) [↓evOp_build, ↓evOp_bslice, rhoP_nil, rhoP_cons, evCode_skip, evCode_region, evCode_draw, evCode_seq, evCode_cond, evCode_block, evCode_loop, evCode_exit, evCode_ret, seqK_ite, seqK_none, seqK_norm, seqK_ret, seqK_exit, seqK_pan, condK_true, condK_false, condK_bool, blockK_ite, blockK_none, blockK_norm, blockK_ret, blockK_exit, blockK_pan, stepK_ite, stepK_none, stepK_ok, stepK_pan, drawK_ite, drawK_none, drawK_ok, drawK_pan, opK_ite, opK_none, opK_val, opK_pan, wantK_true, wantK_false, wantK_some, afterRegion_ite, afterDraw_ite, fromBody_ite, ite_bool, ite_int, stepA_K, doOp, noOp, lexA_nil, lexA_cons, lexF_nil, lexF_cons, afterDraw, noClash, FP.clash, wantedA, evOp, rho, rhoL, ofC0, ofC, argsA, upd, afterRegion, putA, goOp, evBin_add, evBin_sub, evBin_mul, evBin_quo, evBin_rem, evBin_eql, evBin_neq, evBin_lss, evBin_leq, evBin_gtr, evBin_geq, evBin_eqlB, evBin_neqB, evBin_addS, evBin_eqlS, evBin_neqS, evBin_lssS, evBin_leqS, evUn, evConv, evIndex, evBuiltin, evLen, evMin2, evMax2, evCallee, evBox, evLoad, evStore, evFieldAddr, evField, evIndexAddr, evBuild, evBuildSlice, evElems, evSlice, nth, rdc, wrc, fromBody, resA, finRet, oneOf, AV.cells?, AV.isCell, fin_int, fin_bool, fin_str, Try.f42, E_esc, c24, a24, k24, fq0, fq1, fq2, fq4, k3, c3, a3, k2, c2, a2, k9, a9, c9, hks, -AV.isCell, leafT]
  · simp (disch := first | (simp only [List.length_append, List.length_cons, List.length_nil]; omega) | (simp; done) | assumption) [↓evOp_build, ↓evOp_bslice, rhoP_nil, rhoP_cons, evCode_skip, evCode_region, evCode_draw, evCode_seq, evCode_cond, evCode_block, evCode_loop, evCode_exit, evCode_ret, seqK_ite, seqK_none, seqK_norm, seqK_ret, seqK_exit, seqK_pan, condK_true, condK_false, condK_bool, blockK_ite, blockK_none, blockK_norm, blockK_ret, blockK_exit, blockK_pan, stepK_ite, stepK_none, stepK_ok, stepK_pan, drawK_ite, drawK_none, drawK_ok, drawK_pan, opK_ite, opK_none, opK_val, opK_pan, wantK_true, wantK_false, wantK_some, afterRegion_ite, afterDraw_ite, fromBody_ite, ite_bool, ite_int, stepA_K, doOp, noOp, lexA_nil, lexA_cons, lexF_nil, lexF_cons, afterDraw, noClash, FP.clash, wantedA, evOp, rho, rhoL, ofC0, ofC, argsA, upd, afterRegion, putA, goOp, evBin_add, evBin_sub, evBin_mul, evBin_quo, evBin_rem, evBin_eql, evBin_neq, evBin_lss, evBin_leq, evBin_gtr, evBin_geq, evBin_eqlB, evBin_neqB, evBin_addS, evBin_eqlS, evBin_neqS, evBin_lssS, evBin_leqS, evUn, evConv, evIndex, evBuiltin, evLen, evMin2, evMax2, evCallee, evBox, evLoad, evStore, evFieldAddr, evField, evIndexAddr, evBuild, evBuildSlice, evElems, evSlice, nth, rdc, wrc, fromBody, resA, finRet, oneOf, AV.cells?, AV.isCell, fin_int, fin_bool, fin_str, Try.f42, E_esc, c24, a24, k24, fq0, fq1, fq2, fq4, k3, c3, a3, k2, c2, a2, k9, a9, c9, hks, -AV.isCell, leafT, d2, hp]
  · simp (disch := first | (simp only [List.length_append, List.length_cons, List.length_nil]; omega) | (simp; done) | assumption) [↓evOp_build, ↓evOp_bslice, rhoP_nil, rhoP_cons, evCode_skip, evCode_region, evCode_draw, evCode_seq, evCode_cond, evCode_block, evCode_loop, evCode_exit, evCode_ret, seqK_ite, seqK_none, seqK_norm, seqK_ret, seqK_exit, seqK_pan, condK_true, condK_false, condK_bool, blockK_ite, blockK_none, blockK_norm, blockK_ret, blockK_exit, blockK_pan, stepK_ite, stepK_none, stepK_ok, stepK_pan, drawK_ite, drawK_none, drawK_ok, drawK_pan, opK_ite, opK_none, opK_val, opK_pan, wantK_true, wantK_false, wantK_some, afterRegion_ite, afterDraw_ite, fromBody_ite, ite_bool, ite_int, stepA_K, doOp, noOp, lexA_nil, lexA_cons, lexF_nil, lexF_cons, afterDraw, noClash, FP.clash, wantedA, evOp, rho, rhoL, ofC0, ofC, argsA, upd, afterRegion, putA, goOp, evBin_add, evBin_sub, evBin_mul, evBin_quo, evBin_rem, evBin_eql, evBin_neq, evBin_lss, evBin_leq, evBin_gtr, evBin_geq, evBin_eqlB, evBin_neqB, evBin_addS, evBin_eqlS, evBin_neqS, evBin_lssS, evBin_leqS, evUn, evConv, evIndex, evBuiltin, evLen, evMin2, evMax2, evCallee, evBox, evLoad, evStore, evFieldAddr, evField, evIndexAddr, evBuild, evBuildSlice, evElems, evSlice, nth, rdc, wrc, fromBody, resA, finRet, oneOf, AV.cells?, AV.isCell, fin_int, fin_bool, fin_str, Try.f42, E_esc, c24, a24, k24, fq0, fq1, fq2, fq4, k3, c3, a3, k2, c2, a2, k9, a9, c9, hks, -AV.isCell, leafT]

/-- what stands ahead of kids in parentheses -/
def frontT (k lo hi : Int) : List UInt8 := if k = 12 ∨ k = 25 then wordT k else wordT k ++ spanT lo hi
theorem spanT_len {lo hi : Int} (h1 : in64 lo) (h2 : in64 hi) : (spanT lo hi).length ≤ 45 := by
  have l1 := dec_len h1
  have l2 := dec_len h2
  unfold spanT
  split <;> simp <;> omega

theorem ev_front (m : Nat) (hm : 32 ≤ m) (k : Int) (nm : List UInt8) (n lo hi : Int) (ks : AV) (hks : ks.isCell = true) (hk : k = 12 ∨ k = 25 ∨ k = 22 ∨ k = 23 ∨ k = 24) (h1 : in64 lo) (h2 : in64 hi) (S : St) :
    ev Try.prog E (m + 1) 43 [.agg [.int .i64 k, .str nm, .int .i64 n, .int .i64 lo, .int .i64 hi, ks]] S = some (.ret (.str (frontT k lo hi)), S) := by
  obtain ⟨m, rfl⟩ : ∃ k, m = k + 1 := ⟨m - 1, by omega⟩
  have d1 := ev_rSpan m (by omega) lo hi h1 h2 S
  have l1 := spanT_len h1 h2
  rw [ev_enter (n := m + 1) (show E.ok 43 = true from rfl) Try.func43 (fn := Try.f43) rfl (Nat.le_of_ble_eq_true rfl) (by decide +kernel)]
  rcases hk with rfl | rfl | rfl | rfl | rfl <;> simp (disch := first | (simp only [List.length_append, List.length_cons, List.length_nil]; omega) | (simp; done) | assumption) [↓evOp_build, ↓evOp_bslice, rhoP_nil, rhoP_cons, evCode_skip, evCode_region, evCode_draw, evCode_seq, evCode_cond, evCode_block, evCode_loop, evCode_exit, evCode_ret, seqK_ite, seqK_none, seqK_norm, seqK_ret, seqK_exit, seqK_pan, condK_true, condK_false, condK_bool, blockK_ite, blockK_none, blockK_norm, blockK_ret, blockK_exit, blockK_pan, stepK_ite, stepK_none, stepK_ok, stepK_pan, drawK_ite, drawK_none, drawK_ok, drawK_pan, opK_ite, opK_none, opK_val, opK_pan, wantK_true, wantK_false, wantK_some, afterRegion_ite, afterDraw_ite, fromBody_ite, ite_bool, ite_int, stepA_K, doOp, noOp, lexA_nil, lexA_cons, lexF_nil, lexF_cons, afterDraw, noClash, FP.clash, wantedA, evOp, rho, rhoL, ofC0, ofC, argsA, upd, afterRegion, putA, goOp, evBin_add, evBin_sub, evBin_mul, evBin_quo, evBin_rem, evBin_eql, evBin_neq, evBin_lss, evBin_leq, evBin_gtr, evBin_geq, evBin_eqlB, evBin_neqB, evBin_addS, evBin_eqlS, evBin_neqS, evBin_lssS, evBin_leqS, evUn, evConv, evIndex, evBuiltin, evLen, evMin2, evMax2, evCallee, evBox, evLoad, evStore, evFieldAddr, evField, evIndexAddr, evBuild, evBuildSlice, evElems, evSlice, nth, rdc, wrc, fromBody, resA, finRet, oneOf, AV.cells?, AV.isCell, fin_int, fin_bool, fin_str, Try.f43, E_esc, c24, a24, k24, fq0, fq3, fq4, k3, c3, a3, k2, c2, a2, hks, -AV.isCell, frontT, wordT, d1]

theorem k58 : knownQ Try.prog 58 = true := by kernel_rfl
theorem a58 : aggQ Try.prog 58 = true := by kernel_rfl
theorem c58 : Try.prog.cellsOf 58 = 7 := by kernel_rfl
theorem aq58 : arrQ Try.prog 58 = some (7, 9) := by kernel_rfl
theorem sq58 : sliceQ Try.prog 58 = none := by kernel_rfl
theorem z58 : zeroQ Try.prog 58 = some [.str [], .str [], .str [], .str [], .str [], .str [], .str []] := by kernel_rfl
theorem i58 : (Try.prog.info? 58).isSome = true := by kernel_rfl
theorem i9 : (Try.prog.info? 9).isSome = true := by kernel_rfl
theorem ev_between (n : Nat) (k : Int) (hk : k = 8 ∨ k = 9 ∨ k = 10 ∨ k = 14 ∨ k = 15 ∨ k = 16 ∨ k = 17 ∨ k = 19 ∨ k = 20) (S : St) : ev Try.prog E (n + 1) 44 [.int .i64 k] S = some (.ret (.str (signT k)), S) := by
  have hb : evBuild Try.prog 58 [(0, .str [43]), (1, .str [45]), (2, .str [42]), (3, .str []), (4, .str []), (5, .str []), (6, .str [61])] = some (.agg [.str [43], .str [45], .str [42], .str [], .str [], .str [], .str [61]]) := by kernel_rfl
  have w : ∀ a : Int, (0 ≤ a ∧ a < 30) → IntKind.i64.wrap a = a := fun a h => wrap64 a (by omega)
  rw [ev_enter (n := n) (show E.ok 44 = true from rfl) Try.func44 (fn := Try.f44) rfl (Nat.le_of_ble_eq_true rfl) (by decide +kernel)]
  rcases hk with rfl | rfl | rfl | rfl | rfl | rfl | rfl | rfl | rfl <;> simp (disch := first | (simp only [List.length_append, List.length_cons, List.length_nil]; omega) | (simp; done) | assumption) [↓evOp_build, ↓evOp_bslice, rhoP_nil, rhoP_cons, evCode_skip, evCode_region, evCode_draw, evCode_seq, evCode_cond, evCode_block, evCode_loop, evCode_exit, evCode_ret, seqK_ite, seqK_none, seqK_norm, seqK_ret, seqK_exit, seqK_pan, condK_true, condK_false, condK_bool, blockK_ite, blockK_none, blockK_norm, blockK_ret, blockK_exit, blockK_pan, stepK_ite, stepK_none, stepK_ok, stepK_pan, drawK_ite, drawK_none, drawK_ok, drawK_pan, opK_ite, opK_none, opK_val, opK_pan, wantK_true, wantK_false, wantK_some, afterRegion_ite, afterDraw_ite, fromBody_ite, ite_bool, ite_int, stepA_K, doOp, noOp, lexA_nil, lexA_cons, lexF_nil, lexF_cons, afterDraw, noClash, FP.clash, wantedA, evOp, rho, rhoL, ofC0, ofC, argsA, upd, afterRegion, putA, goOp, evBin_add, evBin_sub, evBin_mul, evBin_quo, evBin_rem, evBin_eql, evBin_neq, evBin_lss, evBin_leq, evBin_gtr, evBin_geq, evBin_eqlB, evBin_neqB, evBin_addS, evBin_eqlS, evBin_neqS, evBin_lssS, evBin_leqS, evUn, evConv, evIndex, evBuiltin, evLen, evMin2, evMax2, evCallee, evBox, evLoad, evStore, evFieldAddr, evField, evIndexAddr, evBuild, evBuildSlice, evElems, evSlice, nth, rdc, wrc, fromBody, resA, finRet, oneOf, AV.cells?, AV.isCell, fin_int, fin_bool, fin_str, -evBuild, Try.f44, bq3, signT, hb, E_esc, z58, k58, c58, a58, aq58, sq58, i58, i9, k9, c9, a9, w]
end Go.Proofs.Ytemggoaefohliaa.PT

/- The text of an expression that may be; how long it is. No condition. -/
namespace Go.Proofs.Ytemggoaefohliaa.PT
set_option linter.unusedVariables false
set_option linter.unusedSimpArgs false
open Go AE EX
set_option maxRecDepth 100000

def joinT (l : List (List UInt8)) : List UInt8 := Lib.join l [44, 32]
def binT (k : Int) : List (List UInt8) → List UInt8
  | [a, b] => 40 :: a ++ 32 :: signT k ++ 32 :: b ++ [41]
  | _ => []
mutual
/-- as the page says -/
def _root_.Go.Proofs.Ytemggoaefohliaa.EX.X.txt : X → List UInt8
  | .mk k nm n lo hi _ kids =>
    if k = 4 then 123 :: joinT (txtL kids) ++ [125] else if k = 11 then 45 :: joinT (txtL kids) else if k = 18 then [110, 111, 116, 32] ++ joinT (txtL kids) else
    if k = 12 ∨ k = 25 ∨ k = 22 ∨ k = 23 ∨ k = 24 then frontT k lo hi ++ 40 :: joinT (txtL kids) ++ [41] else
    if kids.length = 2 then binT k (txtL kids) else leafT k nm n hi
def txtL : List X → List (List UInt8)
  | [] => []
  | x :: l => x.txt :: txtL l
end
theorem txtL_map : ∀ l : List X, txtL l = l.map X.txt
  | [] => rfl
  | x :: l => by simp [txtL, txtL_map l]

theorem join_len (l : List (List UInt8)) : (joinT l).length ≤ Lib.lens l + 2 * l.length := by
  cases l with
  | nil => simp [joinT, Lib.join_nil]
  | cons x r => unfold joinT; rw [Lib.join_length]; simp; omega
theorem sign_len (k : Int) : (signT k).length ≤ 3 := by unfold signT; (repeat' split) <;> simp
theorem word_len (k : Int) : (wordT k).length ≤ 5 := by unfold wordT; (repeat' split) <;> simp
theorem front_len {k lo hi : Int} (h1 : in64 lo) (h2 : in64 hi) : (frontT k lo hi).length ≤ 50 := by
  have := word_len k
  have := spanT_len h1 h2
  unfold frontT
  split <;> simp <;> omega
theorem leaf_len {k n hi : Int} (nm : List UInt8) (h1 : in64 n) (h2 : in64 hi) : (leafT k nm n hi).length ≤ nm.length + 40 := by
  have := dec_len h1
  have := dec_len h2
  unfold leafT
  (repeat' split) <;> simp [quoteT] <;> omega
theorem bin_len (k : Int) : ∀ l : List (List UInt8), (binT k l).length ≤ Lib.lens l + 10
  | [a, b] => by have := sign_len k; simp [binT, Lib.lens]; omega
  | [] => by simp [binT]
  | [_] => by simp [binT]
  | _ :: _ :: _ :: _ => by simp [binT]
mutual
theorem txt_len : ∀ x : X, x.fit → x.txt.length + 2 ≤ 64 * x.bulk
  | .mk k nm n lo hi tk kids, hf => by
    obtain ⟨f1, f2, f3, f4, f5, f6⟩ := hf
    have h1 := txtL_len kids f6
    have h2 := join_len (txtL kids)
    have h3 := front_len (k := k) f3 f4
    have h4 := leaf_len (k := k) nm f2 f4
    have h5 := bin_len k (txtL kids)
    simp only [X.txt, X.bulk]
    (repeat' split) <;> simp <;> omega
theorem txtL_len : ∀ l : List X, fitL l → Lib.lens (txtL l) + 2 * (txtL l).length ≤ 64 * bulkL l
  | [], _ => by simp [txtL, Lib.lens]
  | x :: l, hf => by
    have h1 := txt_len x hf.1
    have h2 := txtL_len l hf.2
    have : 7 ≤ x.bulk := by cases x; simp [X.bulk]; omega
    simp only [txtL, bulkL, Lib.lens, List.map_cons, List.sum_cons, List.length_cons] at h2 ⊢
    omega
end

/-- it may be: as far as its text goes by it -/
inductive May : X → Prop where
  | set (nm n lo hi tk kids) : (∀ x ∈ kids, ∃ nm' n' lo' hi' tk', x = .mk 3 nm' n' lo' hi' tk' []) → May (.mk 4 nm n lo hi tk kids)
  | leaf (k nm n lo hi tk) : isLeaf k → (k = 2 → n = 0 ∨ n = 1) → May (.mk k nm n lo hi tk [])
  | one (k nm n lo hi tk a) : (k = 11 ∨ k = 12 ∨ k = 18 ∨ k = 22 ∨ k = 23 ∨ k = 25) → May a → May (.mk k nm n lo hi tk [a])
  | two (k nm n lo hi tk a b) : (k = 8 ∨ k = 9 ∨ k = 10 ∨ k = 14 ∨ k = 15 ∨ k = 16 ∨ k = 17 ∨ k = 19 ∨ k = 20 ∨ k = 24) → May a → May b → May (.mk k nm n lo hi tk [a, b])

theorem by9 : Try.prog.bytesOf 9 = 16 := by kernel_rfl
theorem sq56 : sliceQ Try.prog 56 = some 9 := by kernel_rfl
theorem u56 : Try.prog.underlying 56 = some (.slice 9) := by kernel_rfl
theorem z9 : zeroQ Try.prog 9 = some [.str []] := by kernel_rfl

theorem sizes_strs : ∀ l : List (List UInt8), sizesOk 1 (l.map AV.str) = true
  | [] => rfl
  | s :: l => by simp [sizesOk, AV.cells?, sizes_strs l]
theorem app0 (x : List UInt8) (S : St) : evAppend Try.prog [56, 56] (.slice [] .clip) (.slice [.str x] .clip) S = some (.slice [.str x] (.own S.T.length 1), ⟨S.H, S.T ++ [1]⟩) := by
  simp [evAppend, sq56, u56, elemsOf, z9, c9, by9, sizesOk, AV.cells?]
theorem app1 (l : List (List UInt8)) (x : List UInt8) (S : St) (hl : l.length ≤ 1099511627776) :
    evAppend Try.prog [56, 56] (.slice (l.map AV.str) (.own S.T.length l.length)) (.slice [.str x] .clip) ⟨S.H, S.T ++ [l.length]⟩ = some (.slice ((l ++ [x]).map AV.str) (.own S.T.length (l.length + 1)), ⟨S.H, S.T ++ [l.length + 1]⟩) := by
  simp [evAppend, sq56, u56, elemsOf, z9, c9, by9, sizes_strs, sizesOk, AV.cells?]
  omega

theorem ev_join (n : Nat) (l : List (List UInt8)) (tok : Tok) (S : St) (h1 : l.length ≤ 1099511627776) (h2 : (joinT l).length ≤ 1099511627776) :
    ev Try.prog E (n + 1) 56 [.slice (l.map AV.str) tok, .str [44, 32]] S = some (.ret (.str (joinT l)), S) := by
  have hE : E.ok 56 = false := rfl
  rw [ev, if_neg (by simp [hE])]
  unfold joinT at *
  simp [E, joinX, strsOf_map, show l.length ≤ 140737488355328 by omega, show (Lib.join l [44, 32]).length ≤ 140737488355328 by omega]
end Go.Proofs.Ytemggoaefohliaa.PT

/- print.Expr, evaluated where the expression may be. No condition. -/
namespace Go.Proofs.Ytemggoaefohliaa.PT
set_option linter.unusedVariables false
set_option linter.unusedSimpArgs false
open Go AE EX
set_option maxRecDepth 100000

theorem k56 : (Try.prog.info? 24).isSome = true := by kernel_rfl

noncomputable def aLoop : Code := cutC (bodyOf Try.f37) [1, 1, 0, 1, 0, 0]
noncomputable def al0 : Code := cutC (bodyOf Try.f37) [0]
noncomputable def al1 : Code := cutC (bodyOf Try.f37) [1, 0]
noncomputable def al2 : Code := cutC (bodyOf Try.f37) [1, 1, 0, 0]
noncomputable def al3 : Code := cutC (bodyOf Try.f37) [1, 1, 1]
theorem f37b : Try.f37.body = some (.seq al0 (.seq al1 (.seq (.seq al2 (.block 0 (.loop aLoop))) al3))) := rfl

def AI (kids : List X) (tk : Bool) (S0 : St) (i : Nat) (fs : FS) : Prop :=
  fs.t 6 = .slice (embL kids) (tokOf tk) ∧ fs.t 7 = .int .i64 kids.length ∧ fs.t 8 = .int .i64 i ∧
    (if i = 0 then fs.t 3 = .slice [] .clip ∧ fs.S = S0 else fs.t 3 = .slice ((txtL (kids.take i)).map AV.str) (.own S0.T.length i) ∧ fs.S = ⟨S0.H, S0.T ++ [i]⟩)

theorem txtL_append (a b : List X) : txtL (a ++ b) = txtL a ++ txtL b := by simp [txtL_map]
theorem txtL_length (l : List X) : (txtL l).length = l.length := by simp [txtL_map]

theorem all_round (n : Nat) (kids : List X) (tk : Bool) (S0 : St) (hlen : kids.length ≤ 1099511627776)
    (hrec : ∀ x ∈ kids, ∀ S, ev Try.prog E n 17 [x.emb] S = some (.ret (.str x.txt), S)) (i : Nat) (hi : i < kids.length) (fs : FS) (h : AI kids tk S0 i fs) :
    ∃ fs', evCode ⟨Try.prog, E.esc 37, n⟩ (ev Try.prog E n) (E.ps 37) n aLoop fs = some (.norm, fs') ∧ AI kids tk S0 (i + 1) fs' := by
  obtain ⟨t, b, v, S⟩ := fs
  obtain ⟨h1, h2, h3, h4⟩ := h
  simp at h1 h2 h3 h4
  have hxe : kids[i]? = some kids[i] := List.getElem?_eq_getElem hi
  have hr := hrec kids[i] (List.getElem_mem hi) S
  have hsplit : kids.take (i + 1) = kids.take i ++ [kids[i]] := by rw [List.take_add_one, hxe]; rfl
  have htx : txtL (kids.take (i + 1)) = txtL (kids.take i) ++ [kids[i].txt] := by rw [hsplit, txtL_append]; rfl
  have hemb : (embL kids)[i]? = some kids[i].emb := by rw [embL_map, List.getElem?_map, hxe]; rfl
  have htl : (txtL (kids.take i)).length = i := by rw [txtL_length]; simp; omega
  generalize kids[i] = x at *
  obtain ⟨k, nm, a, lo, hi', tk', ks⟩ := x
  generalize (X.mk k nm a lo hi' tk' ks).txt = xt at *
  simp only [X.emb] at hemb hr
  have hw : IntKind.i64.wrap ((i : Int) + 1) = (i : Int) + 1 := wrap64 _ (by omega)
  have hlt : (i : Int) < kids.length := by omega
  obtain ⟨z, hz⟩ := ii24
  by_cases h0 : i = 0
  · subst h0
    simp only [if_pos] at h4
    obtain ⟨h4, rfl⟩ := h4
    have ha := app0 xt S
    refine ⟨_, by
      simp (disch := first | (simp only [List.length_append, List.length_cons, List.length_nil]; omega) | (simp; done) | assumption) [↓evOp_build, ↓evOp_bslice, rhoP_nil, rhoP_cons, evCode_skip, evCode_region, evCode_draw, evCode_seq, evCode_cond, evCode_block, evCode_loop, evCode_exit, evCode_ret, seqK_ite, seqK_none, seqK_norm, seqK_ret, seqK_exit, seqK_pan, condK_true, condK_false, condK_bool, blockK_ite, blockK_none, blockK_norm, blockK_ret, blockK_exit, blockK_pan, stepK_ite, stepK_none, stepK_ok, stepK_pan, drawK_ite, drawK_none, drawK_ok, drawK_pan, opK_ite, opK_none, opK_val, opK_pan, wantK_true, wantK_false, wantK_some, afterRegion_ite, afterDraw_ite, fromBody_ite, ite_bool, ite_int, stepA_K, doOp, noOp, lexA_nil, lexA_cons, lexF_nil, lexF_cons, afterDraw, noClash, FP.clash, wantedA, evOp, rho, rhoL, ofC0, ofC, argsA, upd, afterRegion, putA, goOp, evBin_add, evBin_sub, evBin_mul, evBin_quo, evBin_rem, evBin_eql, evBin_neq, evBin_lss, evBin_leq, evBin_gtr, evBin_geq, evBin_eqlB, evBin_neqB, evBin_addS, evBin_eqlS, evBin_neqS, evBin_lssS, evBin_leqS, evUn, evConv, evIndex, evBuiltin, evLen, evMin2, evMax2, evCallee, evBox, evLoad, evStore, evFieldAddr, evField, evIndexAddr, evBuild, evBuildSlice, evElems, evSlice, nth, rdc, wrc, fromBody, resA, finRet, oneOf, AV.cells?, AV.isCell, fin_int, fin_bool, fin_str, -evBuildSlice, aLoop, cutC, bodyOf, Try.f37, E_esc, k24, c24, a24, z24, i24, hz, sq22, h1, h2, h3, h4, hemb, hr, hlt, hi, bq3, evBuildSlice, evElems, sq56, z9, c9, a9, ha]
      rfl, by simp [upd, h1], by simp [upd, h2], by simp [upd, wrap64 1 (by omega)], ?_⟩
    rw [if_neg (by omega), htx]
    exact ⟨by simp [upd, txtL], rfl⟩
  · rw [if_neg h0] at h4
    obtain ⟨h4, rfl⟩ := h4
    have ha := app1 (txtL (kids.take i)) xt S0 (by omega)
    rw [htl] at ha
    refine ⟨_, by
      simp (disch := first | (simp only [List.length_append, List.length_cons, List.length_nil]; omega) | (simp; done) | assumption) [↓evOp_build, ↓evOp_bslice, rhoP_nil, rhoP_cons, evCode_skip, evCode_region, evCode_draw, evCode_seq, evCode_cond, evCode_block, evCode_loop, evCode_exit, evCode_ret, seqK_ite, seqK_none, seqK_norm, seqK_ret, seqK_exit, seqK_pan, condK_true, condK_false, condK_bool, blockK_ite, blockK_none, blockK_norm, blockK_ret, blockK_exit, blockK_pan, stepK_ite, stepK_none, stepK_ok, stepK_pan, drawK_ite, drawK_none, drawK_ok, drawK_pan, opK_ite, opK_none, opK_val, opK_pan, wantK_true, wantK_false, wantK_some, afterRegion_ite, afterDraw_ite, fromBody_ite, ite_bool, ite_int, stepA_K, doOp, noOp, lexA_nil, lexA_cons, lexF_nil, lexF_cons, afterDraw, noClash, FP.clash, wantedA, evOp, rho, rhoL, ofC0, ofC, argsA, upd, afterRegion, putA, goOp, evBin_add, evBin_sub, evBin_mul, evBin_quo, evBin_rem, evBin_eql, evBin_neq, evBin_lss, evBin_leq, evBin_gtr, evBin_geq, evBin_eqlB, evBin_neqB, evBin_addS, evBin_eqlS, evBin_neqS, evBin_lssS, evBin_leqS, evUn, evConv, evIndex, evBuiltin, evLen, evMin2, evMax2, evCallee, evBox, evLoad, evStore, evFieldAddr, evField, evIndexAddr, evBuild, evBuildSlice, evElems, evSlice, nth, rdc, wrc, fromBody, resA, finRet, oneOf, AV.cells?, AV.isCell, fin_int, fin_bool, fin_str, aLoop, cutC, bodyOf, Try.f37, E_esc, k24, c24, a24, z24, i24, hz, sq22, h1, h2, h3, h4, hemb, hr, hlt, bq3, evBuildSlice, evElems, sq56, z9, c9, a9, ha, -List.map_append]
      rfl, by simp [upd, h1], by simp [upd, h2], by simp [upd, hw], ?_⟩
    rw [if_neg (by omega), htx]
    exact ⟨by simp [upd], rfl⟩

theorem ev_all (n : Nat) (hn : 2 ≤ n) (kids : List X) (tk : Bool) (S : St) (hl : kids.length < n) (hlen : kids.length ≤ 1099511627776) (hj : (joinT (txtL kids)).length ≤ 1099511627776)
    (hrec : ∀ x ∈ kids, ∀ S, ev Try.prog E n 17 [x.emb] S = some (.ret (.str x.txt), S)) :
    ev Try.prog E (n + 1) 37 [.slice (embL kids) (tokOf tk)] S = some (.ret (.str (joinT (txtL kids))), S) := by
  have key : ∀ fs, AI kids tk S 0 fs → ∃ fs', iter n (evCode ⟨Try.prog, E.esc 37, n⟩ (ev Try.prog E n) (E.ps 37) n aLoop) fs = some (.exit 0, fs') ∧ AI kids tk S kids.length fs' := fun fs h => by
    obtain ⟨⟨o, fs'⟩, r1, r2, r3⟩ := iter_range (Q := fun r => r.1 = .exit 0 ∧ AI kids tk S kids.length r.2) (len := kids.length) (fun i hi fs h => all_round n kids tk S hlen hrec i hi fs h)
      (fun fs h => by
        obtain ⟨t, b, v, S'⟩ := fs
        obtain ⟨h1, h2, h3, h4⟩ := h
        simp at h1 h2 h3 h4
        refine ⟨.exit 0, _, by
          simp (disch := first | (simp only [List.length_append, List.length_cons, List.length_nil]; omega) | (simp; done) | assumption) [↓evOp_build, ↓evOp_bslice, rhoP_nil, rhoP_cons, evCode_skip, evCode_region, evCode_draw, evCode_seq, evCode_cond, evCode_block, evCode_loop, evCode_exit, evCode_ret, seqK_ite, seqK_none, seqK_norm, seqK_ret, seqK_exit, seqK_pan, condK_true, condK_false, condK_bool, blockK_ite, blockK_none, blockK_norm, blockK_ret, blockK_exit, blockK_pan, stepK_ite, stepK_none, stepK_ok, stepK_pan, drawK_ite, drawK_none, drawK_ok, drawK_pan, opK_ite, opK_none, opK_val, opK_pan, wantK_true, wantK_false, wantK_some, afterRegion_ite, afterDraw_ite, fromBody_ite, ite_bool, ite_int, stepA_K, doOp, noOp, lexA_nil, lexA_cons, lexF_nil, lexF_cons, afterDraw, noClash, FP.clash, wantedA, evOp, rho, rhoL, ofC0, ofC, argsA, upd, afterRegion, putA, goOp, evBin_add, evBin_sub, evBin_mul, evBin_quo, evBin_rem, evBin_eql, evBin_neq, evBin_lss, evBin_leq, evBin_gtr, evBin_geq, evBin_eqlB, evBin_neqB, evBin_addS, evBin_eqlS, evBin_neqS, evBin_lssS, evBin_leqS, evUn, evConv, evIndex, evBuiltin, evLen, evMin2, evMax2, evCallee, evBox, evLoad, evStore, evFieldAddr, evField, evIndexAddr, evBuild, evBuildSlice, evElems, evSlice, nth, rdc, wrc, fromBody, resA, finRet, oneOf, AV.cells?, AV.isCell, fin_int, fin_bool, fin_str, aLoop, cutC, bodyOf, Try.f37, h2, h3, bq3]
          rfl, by simp, rfl, by simp [upd, h1], by simp [upd, h2], by simp [upd, h3], by simpa [upd] using h4⟩) kids.length 0 n fs (by omega) hl h
    simp only at r2
    subst r2
    exact ⟨fs', r1, r3⟩
  have hlen2 : (embL kids).length = kids.length := by rw [embL_map]; simp
  obtain ⟨⟨t, b, v, S'⟩, hr, g1, g2, g3, g4⟩ := key ⟨upd 8 (.int .i64 0) (upd 7 (.int .i64 kids.length) (upd 6 (.slice (embL kids) (tokOf tk)) (upd 3 (.slice [] .clip) (upd 2 (.str []) (argsA [.slice (embL kids) (tokOf tk)]))))), fun _ => (0, []), 5, S⟩
    ⟨by simp [upd], by simp [upd], by simp [upd], by simp [upd]⟩
  simp at g1 g2 g3 g4
  obtain ⟨n, rfl⟩ : ∃ k, n = k + 1 := ⟨n - 1, by omega⟩
  rw [ev_enter (n := n + 1) (show E.ok 37 = true from rfl) Try.func37 f37b (Nat.le_of_ble_eq_true rfl) (by decide +kernel)]
  obtain ⟨l, tok, ex, hl1, hl2, hl3⟩ : ∃ (l : List (List UInt8)) (tok : Tok) (ex : List Nat), l = txtL kids ∧ t 3 = .slice (l.map AV.str) tok ∧ S' = ⟨S.H, S.T ++ ex⟩ := by
    by_cases h0 : kids.length = 0
    · rw [if_pos (by simpa using h0)] at g4
      have : kids = [] := List.eq_nil_of_length_eq_zero h0
      subst this
      exact ⟨[], .clip, [], rfl, g4.1, by rw [g4.2]; simp⟩
    · rw [if_neg (by simpa using h0)] at g4
      exact ⟨txtL kids, _, _, rfl, by simpa using g4.1, g4.2⟩
  subst hl3
  have hjn := ev_join n l tok ⟨S.H, S.T ++ ex⟩ (by rw [hl1, txtL_length]; exact hlen) (by rw [hl1]; exact hj)
  have hf := fin_strT (joinT l) S ex
  rw [← hl1]
  simp (disch := first | (simp only [List.length_append, List.length_cons, List.length_nil]; omega) | (simp; done) | assumption) [↓evOp_build, ↓evOp_bslice, rhoP_nil, rhoP_cons, evCode_skip, evCode_region, evCode_draw, evCode_seq, evCode_cond, evCode_block, evCode_loop, evCode_exit, evCode_ret, seqK_ite, seqK_none, seqK_norm, seqK_ret, seqK_exit, seqK_pan, condK_true, condK_false, condK_bool, blockK_ite, blockK_none, blockK_norm, blockK_ret, blockK_exit, blockK_pan, stepK_ite, stepK_none, stepK_ok, stepK_pan, drawK_ite, drawK_none, drawK_ok, drawK_pan, opK_ite, opK_none, opK_val, opK_pan, wantK_true, wantK_false, wantK_some, afterRegion_ite, afterDraw_ite, fromBody_ite, ite_bool, ite_int, stepA_K, doOp, noOp, lexA_nil, lexA_cons, lexF_nil, lexF_cons, afterDraw, noClash, FP.clash, wantedA, evOp, rho, rhoL, ofC0, ofC, argsA, upd, afterRegion, putA, goOp, evBin_add, evBin_sub, evBin_mul, evBin_quo, evBin_rem, evBin_eql, evBin_neq, evBin_lss, evBin_leq, evBin_gtr, evBin_geq, evBin_eqlB, evBin_neqB, evBin_addS, evBin_eqlS, evBin_neqS, evBin_lssS, evBin_leqS, evUn, evConv, evIndex, evBuiltin, evLen, evMin2, evMax2, evCallee, evBox, evLoad, evStore, evFieldAddr, evField, evIndexAddr, evBuild, evBuildSlice, evElems, evSlice, nth, rdc, wrc, fromBody, resA, finRet, oneOf, AV.cells?, AV.isCell, fin_int, fin_bool, fin_str, al0, al1, al2, al3, cutC, bodyOf, Try.f37, hlen2, sq22, hr, hl2, hjn, hf]
end Go.Proofs.Ytemggoaefohliaa.PT

/- print.Expr, evaluated where the expression may be (2). No condition. -/
namespace Go.Proofs.Ytemggoaefohliaa.PT
set_option linter.unusedVariables false
set_option linter.unusedSimpArgs false
open Go AE EX
set_option maxRecDepth 100000

theorem bulkL_mem {x : X} : ∀ {l : List X}, x ∈ l → x.bulk ≤ bulkL l
  | y :: l, h => by
    rcases List.mem_cons.1 h with rfl | h
    · simp [bulkL]
    · have := bulkL_mem h; simp [bulkL]; omega
theorem fitL_mem {x : X} : ∀ {l : List X}, x ∈ l → fitL l → x.fit
  | y :: l, h, hf => by
    rcases List.mem_cons.1 h with rfl | h
    · exact hf.1
    · exact fitL_mem h hf.2

theorem cells_all (x : X) : x.cells.all AV.isCell = true := by
  cases x; simp [X.cells, AV.isCell]

theorem join_bulk {kids : List X} (hf : fitL kids) : (joinT (txtL kids)).length ≤ 64 * bulkL kids := by
  have h1 := txtL_len kids hf
  have h2 := join_len (txtL kids)
  omega

set_option maxHeartbeats 4000000 in
theorem ev_Expr : ∀ (m : Nat) (x : X), x.bulk ≤ m → May x → x.fit → m ≤ 1048576 → ∀ n, 2 * m + 40 ≤ n → ∀ S, ev Try.prog E n 17 [x.emb] S = some (.ret (.str x.txt), S)
  | 0, x, hm, _, _, _, _, _, _ => by cases x; simp [X.bulk] at hm
  | m + 1, x, hm, hmay, hfit, hmm, n, hn, S => by
    obtain ⟨n, rfl⟩ : ∃ k, n = k + 3 := ⟨n - 3, by omega⟩
    obtain ⟨k, nm, a, lo, hi, tk, kids⟩ := x
    obtain ⟨f1, f2, f3, f4, f5, f6⟩ := hfit
    simp only [X.bulk] at hm
    have hsz := size_bulkL kids
    have hlen := sizeL_length kids
    have hrec : ∀ x ∈ kids, May x → ∀ S, ev Try.prog E (n + 1) 17 [x.emb] S = some (.ret (.str x.txt), S) := fun x hx hx' S =>
      ev_Expr m x (by have := bulkL_mem hx; omega) hx' (fitL_mem hx f6) (by omega) (n + 1) (by omega) S
    have hrec2 : ∀ x ∈ kids, May x → ∀ S, ev Try.prog E (n + 2) 17 [x.emb] S = some (.ret (.str x.txt), S) := fun x hx hx' S =>
      ev_Expr m x (by have := bulkL_mem hx; omega) hx' (fitL_mem hx f6) (by omega) (n + 2) (by omega) S
    have hj := join_bulk f6
    have hall : (∀ x ∈ kids, May x) → ∀ S, ev Try.prog E (n + 2) 37 [.slice (embL kids) (tokOf tk)] S = some (.ret (.str (joinT (txtL kids))), S) := fun h S =>
      ev_all (n + 1) (by omega) kids tk S (by omega) (by omega) (by omega) fun x hx S => hrec x hx (h x hx) S
    have hspan : ev Try.prog E (n + 2) 13 [.int .i64 lo, .int .i64 hi] S = some (.ret (.str (spanT lo hi)), S) := ev_Span (n + 1) (by omega) lo hi f3 f4 S
    have hsl := spanT_len f3 f4
    have hword := word_len k
    have hE2 : (embL kids).length = kids.length := by rw [embL_map]; simp
    have p1 : E.ps 17 9 = [(1, 5), (2, 5)] := rfl
    have p2 : E.ps 17 11 = [(1, 4), (2, 4), (1, 6), (2, 6), (4, 6), (1, 11), (2, 11), (4, 11), (6, 11), (7, 11)] := rfl
    have p3 : E.ps 17 13 = [(1, 8), (3, 8), (4, 8), (1, 13), (3, 13), (4, 13), (8, 13), (9, 13), (1, 15), (3, 15), (4, 15), (8, 15), (9, 15)] := rfl
    simp only [X.emb]
    rw [ev_enter (n := n + 2) (show E.ok 17 = true from rfl) Try.func17 (fn := Try.f17) rfl (Nat.le_of_ble_eq_true rfl) (by decide +kernel)]
    cases hmay with
    | set _ _ _ _ _ _ hk =>
      have ha := hall (fun x hx => by obtain ⟨_, _, _, _, _, rfl⟩ := hk x hx; exact .leaf _ _ _ _ _ _ (.inr (.inr (.inl rfl))) (by simp)) S
      generalize hJ : joinT (txtL kids) = J at *
      simp (disch := first | (simp only [List.length_append, List.length_cons, List.length_nil]; omega) | (simp; done) | assumption) [↓evOp_build, ↓evOp_bslice, rhoP_nil, rhoP_cons, evCode_skip, evCode_region, evCode_draw, evCode_seq, evCode_cond, evCode_block, evCode_loop, evCode_exit, evCode_ret, seqK_ite, seqK_none, seqK_norm, seqK_ret, seqK_exit, seqK_pan, condK_true, condK_false, condK_bool, blockK_ite, blockK_none, blockK_norm, blockK_ret, blockK_exit, blockK_pan, stepK_ite, stepK_none, stepK_ok, stepK_pan, drawK_ite, drawK_none, drawK_ok, drawK_pan, opK_ite, opK_none, opK_val, opK_pan, wantK_true, wantK_false, wantK_some, afterRegion_ite, afterDraw_ite, fromBody_ite, ite_bool, ite_int, stepA_K, doOp, noOp, lexA_nil, lexA_cons, lexF_nil, lexF_cons, afterDraw, noClash, FP.clash, wantedA, evOp, rho, rhoL, ofC0, ofC, argsA, upd, afterRegion, putA, goOp, evBin_add, evBin_sub, evBin_mul, evBin_quo, evBin_rem, evBin_eql, evBin_neq, evBin_lss, evBin_leq, evBin_gtr, evBin_geq, evBin_eqlB, evBin_neqB, evBin_addS, evBin_eqlS, evBin_neqS, evBin_lssS, evBin_leqS, evUn, evConv, evIndex, evBuiltin, evLen, evMin2, evMax2, evCallee, evBox, evLoad, evStore, evFieldAddr, evField, evIndexAddr, evBuild, evBuildSlice, evElems, evSlice, nth, rdc, wrc, fromBody, resA, finRet, oneOf, AV.cells?, AV.isCell, fin_int, fin_bool, fin_str, Try.f17, E_esc, k24, c24, a24, k3, c3, a3, k22, c22, a22, fq0, fq5, ha, X.txt, hJ]
    | leaf _ _ _ _ _ _ hk hb =>
      have hl : ev Try.prog E (n + 2) 40 [.agg [.int .i64 k, .str nm, .int .i64 a, .int .i64 lo, .int .i64 hi, .slice [] (tokOf tk)]] S = some (.ret (.str (leafT k nm a hi)), S) := ev_leaf (n + 1) (by omega) k nm a lo hi (.slice [] (tokOf tk)) rfl hk f2 f4 (by omega) S
      rcases hk with rfl | rfl | rfl | rfl | rfl | rfl | rfl | rfl <;>
        simp (disch := first | (simp only [List.length_append, List.length_cons, List.length_nil]; omega) | (simp; done) | assumption) [↓evOp_build, ↓evOp_bslice, rhoP_nil, rhoP_cons, evCode_skip, evCode_region, evCode_draw, evCode_seq, evCode_cond, evCode_block, evCode_loop, evCode_exit, evCode_ret, seqK_ite, seqK_none, seqK_norm, seqK_ret, seqK_exit, seqK_pan, condK_true, condK_false, condK_bool, blockK_ite, blockK_none, blockK_norm, blockK_ret, blockK_exit, blockK_pan, stepK_ite, stepK_none, stepK_ok, stepK_pan, drawK_ite, drawK_none, drawK_ok, drawK_pan, opK_ite, opK_none, opK_val, opK_pan, wantK_true, wantK_false, wantK_some, afterRegion_ite, afterDraw_ite, fromBody_ite, ite_bool, ite_int, stepA_K, doOp, noOp, lexA_nil, lexA_cons, lexF_nil, lexF_cons, afterDraw, noClash, FP.clash, wantedA, evOp, rho, rhoL, ofC0, ofC, argsA, upd, afterRegion, putA, goOp, evBin_add, evBin_sub, evBin_mul, evBin_quo, evBin_rem, evBin_eql, evBin_neq, evBin_lss, evBin_leq, evBin_gtr, evBin_geq, evBin_eqlB, evBin_neqB, evBin_addS, evBin_eqlS, evBin_neqS, evBin_lssS, evBin_leqS, evUn, evConv, evIndex, evBuiltin, evLen, evMin2, evMax2, evCallee, evBox, evLoad, evStore, evFieldAddr, evField, evIndexAddr, evBuild, evBuildSlice, evElems, evSlice, nth, rdc, wrc, fromBody, resA, finRet, oneOf, AV.cells?, AV.isCell, fin_int, fin_bool, fin_str, Try.f17, E_esc, k24, c24, a24, k3, c3, a3, k22, c22, a22, fq0, fq5, sq22, hl, X.txt, embL]
    | one _ _ _ _ _ _ x hk hx =>
      have ha := hall (fun y hy => by simp at hy; subst hy; exact hx) S
      have hw : ∀ k, (k = 12 ∨ k = 25 ∨ k = 22 ∨ k = 23 ∨ k = 24) → ev Try.prog E (n + 2) 38 [.int .i64 k] S = some (.ret (.str (wordT k)), S) := fun k hk => ev_word (n + 1) k hk S
      generalize hJ : joinT (txtL [x]) = J at *
      generalize embL [x] = es at *
      rcases hk with rfl | rfl | rfl | rfl | rfl | rfl <;>
        simp (disch := first | (simp only [List.length_append, List.length_cons, List.length_nil]; omega) | (simp; done) | assumption) [↓evOp_build, ↓evOp_bslice, rhoP_nil, rhoP_cons, evCode_skip, evCode_region, evCode_draw, evCode_seq, evCode_cond, evCode_block, evCode_loop, evCode_exit, evCode_ret, seqK_ite, seqK_none, seqK_norm, seqK_ret, seqK_exit, seqK_pan, condK_true, condK_false, condK_bool, blockK_ite, blockK_none, blockK_norm, blockK_ret, blockK_exit, blockK_pan, stepK_ite, stepK_none, stepK_ok, stepK_pan, drawK_ite, drawK_none, drawK_ok, drawK_pan, opK_ite, opK_none, opK_val, opK_pan, wantK_true, wantK_false, wantK_some, afterRegion_ite, afterDraw_ite, fromBody_ite, ite_bool, ite_int, stepA_K, doOp, noOp, lexA_nil, lexA_cons, lexF_nil, lexF_cons, afterDraw, noClash, FP.clash, wantedA, evOp, rho, rhoL, ofC0, ofC, argsA, upd, afterRegion, putA, goOp, evBin_add, evBin_sub, evBin_mul, evBin_quo, evBin_rem, evBin_eql, evBin_neq, evBin_lss, evBin_leq, evBin_gtr, evBin_geq, evBin_eqlB, evBin_neqB, evBin_addS, evBin_eqlS, evBin_neqS, evBin_lssS, evBin_leqS, evUn, evConv, evIndex, evBuiltin, evLen, evMin2, evMax2, evCallee, evBox, evLoad, evStore, evFieldAddr, evField, evIndexAddr, evBuild, evBuildSlice, evElems, evSlice, nth, rdc, wrc, fromBody, resA, finRet, oneOf, AV.cells?, AV.isCell, fin_int, fin_bool, fin_str, Try.f17, E_esc, k24, c24, a24, k3, c3, a3, k2, c2, a2, k22, c22, a22, fq0, fq3, fq4, fq5, sq22, ha, hw, hspan, hJ, X.txt, p1, p2, frontT, wordT]
    | two _ _ _ _ _ _ x y hk hx hy =>
      have ha := hall (fun z hz => by simp at hz; rcases hz with rfl | rfl <;> assumption) S
      have hw : ∀ k, (k = 12 ∨ k = 25 ∨ k = 22 ∨ k = 23 ∨ k = 24) → ev Try.prog E (n + 2) 38 [.int .i64 k] S = some (.ret (.str (wordT k)), S) := fun k hk => ev_word (n + 1) k hk S
      have hs : ∀ k, (k = 8 ∨ k = 9 ∨ k = 10 ∨ k = 14 ∨ k = 15 ∨ k = 16 ∨ k = 17 ∨ k = 19 ∨ k = 20) → ev Try.prog E (n + 2) 39 [.int .i64 k] S = some (.ret (.str (signT k)), S) := fun k hk => ev_sign (n + 1) k hk S
      have e1 := hrec2 x (by simp) hx S
      have e2 := hrec2 y (by simp) hy S
      have l1 := txt_len x (fitL_mem (l := [x, y]) (by simp) f6)
      have l2 := txt_len y (fitL_mem (l := [x, y]) (by simp) f6)
      have l3 : x.bulk ≤ 1048576 := by have := bulkL_mem (x := x) (l := [x, y]) (by simp); omega
      have l4 : y.bulk ≤ 1048576 := by have := bulkL_mem (x := y) (l := [x, y]) (by simp); omega
      obtain ⟨z, hz⟩ := ii24
      have ha1 := cells_all x
      have ha2 := cells_all y
      have hc1 := (cells_ok x).2
      have hc2 := (cells_ok y).2
      have ht1 : List.take 6 x.cells = x.cells := List.take_of_length_le (by omega)
      have ht2 : List.take 6 y.cells = y.cells := List.take_of_length_le (by omega)
      simp only [emb_cells, embL] at e1 e2 ha ⊢
      rcases hk with rfl | rfl | rfl | rfl | rfl | rfl | rfl | rfl | rfl | rfl
      rotate_right 1
      · generalize hJ : joinT (txtL [x, y]) = J at *
        simp (disch := first | (simp only [List.length_append, List.length_cons, List.length_nil]; omega) | (simp; done) | assumption) [↓evOp_build, ↓evOp_bslice, rhoP_nil, rhoP_cons, evCode_skip, evCode_region, evCode_draw, evCode_seq, evCode_cond, evCode_block, evCode_loop, evCode_exit, evCode_ret, seqK_ite, seqK_none, seqK_norm, seqK_ret, seqK_exit, seqK_pan, condK_true, condK_false, condK_bool, blockK_ite, blockK_none, blockK_norm, blockK_ret, blockK_exit, blockK_pan, stepK_ite, stepK_none, stepK_ok, stepK_pan, drawK_ite, drawK_none, drawK_ok, drawK_pan, opK_ite, opK_none, opK_val, opK_pan, wantK_true, wantK_false, wantK_some, afterRegion_ite, afterDraw_ite, fromBody_ite, ite_bool, ite_int, stepA_K, doOp, noOp, lexA_nil, lexA_cons, lexF_nil, lexF_cons, afterDraw, noClash, FP.clash, wantedA, evOp, rho, rhoL, ofC0, ofC, argsA, upd, afterRegion, putA, goOp, evBin_add, evBin_sub, evBin_mul, evBin_quo, evBin_rem, evBin_eql, evBin_neq, evBin_lss, evBin_leq, evBin_gtr, evBin_geq, evBin_eqlB, evBin_neqB, evBin_addS, evBin_eqlS, evBin_neqS, evBin_lssS, evBin_leqS, evUn, evConv, evIndex, evBuiltin, evLen, evMin2, evMax2, evCallee, evBox, evLoad, evStore, evFieldAddr, evField, evIndexAddr, evBuild, evBuildSlice, evElems, evSlice, nth, rdc, wrc, fromBody, resA, finRet, oneOf, AV.cells?, AV.isCell, fin_int, fin_bool, fin_str, Try.f17, E_esc, k24, c24, a24, k3, c3, a3, k2, c2, a2, k22, c22, a22, fq0, fq3, fq4, fq5, sq22, ha, hw, hspan, hJ, X.txt, p1, p2, frontT, wordT]
      all_goals
        simp only [X.txt, txtL]
        generalize x.txt = t1 at *
        generalize y.txt = t2 at *
        generalize x.cells = C1 at *
        generalize y.cells = C2 at *
        simp (disch := first | (simp only [List.length_append, List.length_cons, List.length_nil]; omega) | (simp; done) | assumption) [↓evOp_build, ↓evOp_bslice, rhoP_nil, rhoP_cons, evCode_skip, evCode_region, evCode_draw, evCode_seq, evCode_cond, evCode_block, evCode_loop, evCode_exit, evCode_ret, seqK_ite, seqK_none, seqK_norm, seqK_ret, seqK_exit, seqK_pan, condK_true, condK_false, condK_bool, blockK_ite, blockK_none, blockK_norm, blockK_ret, blockK_exit, blockK_pan, stepK_ite, stepK_none, stepK_ok, stepK_pan, drawK_ite, drawK_none, drawK_ok, drawK_pan, opK_ite, opK_none, opK_val, opK_pan, wantK_true, wantK_false, wantK_some, afterRegion_ite, afterDraw_ite, fromBody_ite, ite_bool, ite_int, stepA_K, doOp, noOp, lexA_nil, lexA_cons, lexF_nil, lexF_cons, afterDraw, noClash, FP.clash, wantedA, evOp, rho, rhoL, ofC0, ofC, argsA, upd, afterRegion, putA, goOp, evBin_add, evBin_sub, evBin_mul, evBin_quo, evBin_rem, evBin_eql, evBin_neq, evBin_lss, evBin_leq, evBin_gtr, evBin_geq, evBin_eqlB, evBin_neqB, evBin_addS, evBin_eqlS, evBin_neqS, evBin_lssS, evBin_leqS, evUn, evConv, evIndex, evBuiltin, evLen, evMin2, evMax2, evCallee, evBox, evLoad, evStore, evFieldAddr, evField, evIndexAddr, evBuild, evBuildSlice, evElems, evSlice, nth, rdc, wrc, fromBody, resA, finRet, oneOf, AV.cells?, AV.isCell, fin_int, fin_bool, fin_str, Try.f17, E_esc, k24, c24, a24, k3, c3, a3, k22, c22, a22, fq0, fq5, sq22, hs, e1, e2, i24, hz, p3, binT, signT, ha1, ha2, hc1, hc2, ht1, ht2]
end Go.Proofs.Ytemggoaefohliaa.PT

/- The page's text of an expression that may be, evaluated. No condition. -/
namespace Go.Proofs.Ytemggoaefohliaa.PT
set_option linter.unusedVariables false
set_option linter.unusedSimpArgs false
open Go AE EX
set_option maxRecDepth 100000

theorem join_snoc (l : List (List UInt8)) (x : List UInt8) : joinT (l ++ [x]) = if l = [] then x else joinT l ++ [44, 32] ++ x := by
  cases l with
  | nil => simp [joinT, Lib.join_one]
  | cons y r =>
    simp only [joinT, List.cons_append, Lib.join_cons, Lib.joinTail]
    simp

noncomputable def lLoop : Code := cutC (bodyOf Try.f41) [1, 1, 0, 1, 0, 0]
noncomputable def ll0 : Code := cutC (bodyOf Try.f41) [0]
noncomputable def ll1 : Code := cutC (bodyOf Try.f41) [1, 0]
noncomputable def ll2 : Code := cutC (bodyOf Try.f41) [1, 1, 0, 0]
noncomputable def ll3 : Code := cutC (bodyOf Try.f41) [1, 1, 1]
theorem f41b : Try.f41.body = some (.seq ll0 (.seq ll1 (.seq (.seq ll2 (.block 0 (.loop lLoop))) ll3))) := rfl

def LI (kids : List X) (tk : Bool) (S0 : St) (i : Nat) (fs : FS) : Prop :=
  fs.t 0 = .slice (embL kids) (tokOf tk) ∧ fs.t 4 = .int .i64 i ∧ fs.t 3 = .str (joinT (txtL (kids.take i))) ∧ fs.S = S0

theorem list_round (n : Nat) (kids : List X) (tk : Bool) (S0 : St) (hlen : kids.length ≤ 1099511627776) (hj : ∀ i, (joinT (txtL (kids.take i))).length ≤ 1099511627776) (ht : ∀ x ∈ kids, x.txt.length ≤ 1099511627776)
    (hrec : ∀ x ∈ kids, ∀ S, ev Try.prog E n 18 [x.emb] S = some (.ret (.str x.txt), S)) (i : Nat) (hi : i < kids.length) (fs : FS) (h : LI kids tk S0 i fs) :
    ∃ fs', evCode ⟨Try.prog, E.esc 41, n⟩ (ev Try.prog E n) (E.ps 41) n lLoop fs = some (.norm, fs') ∧ LI kids tk S0 (i + 1) fs' := by
  obtain ⟨t, b, v, S⟩ := fs
  obtain ⟨h1, h2, h3, h4⟩ := h
  simp at h1 h2 h3 h4
  subst h4
  have hxe : kids[i]? = some kids[i] := List.getElem?_eq_getElem hi
  have hr := hrec kids[i] (List.getElem_mem hi) S
  have htl := ht kids[i] (List.getElem_mem hi)
  have hji := hj i
  have hsplit : kids.take (i + 1) = kids.take i ++ [kids[i]] := by rw [List.take_add_one, hxe]; rfl
  have htx : joinT (txtL (kids.take (i + 1))) = if i = 0 then kids[i].txt else joinT (txtL (kids.take i)) ++ [44, 32] ++ kids[i].txt := by
    rw [hsplit, txtL_append, show txtL [kids[i]] = [kids[i].txt] from rfl, join_snoc]
    have : (txtL (kids.take i) = []) ↔ i = 0 := by
      rw [← List.length_eq_zero_iff, txtL_length, List.length_take]; omega
    simp only [this]
  have hemb : (embL kids)[i]? = some kids[i].emb := by rw [embL_map, List.getElem?_map, hxe]; rfl
  have ha1 := cells_all kids[i]
  have hc1 := (cells_ok kids[i]).2
  have ht1 : List.take 6 kids[i].cells = kids[i].cells := List.take_of_length_le (by omega)
  rw [emb_cells] at hemb hr
  generalize kids[i].txt = xt at *
  generalize kids[i].cells = C1 at *
  have hE2 : (embL kids).length = kids.length := by rw [embL_map]; simp
  have hw : IntKind.i64.wrap ((i : Int) + 1) = (i : Int) + 1 := wrap64 _ (by omega)
  obtain ⟨z, hz⟩ := ii24
  by_cases h0 : i = 0
  · subst h0
    have e0 : joinT (txtL (kids.take 0)) = [] := rfl
    rw [e0] at h3
    refine ⟨_, by
      simp (disch := first | (simp only [List.length_append, List.length_cons, List.length_nil]; omega) | (simp; done) | assumption) [↓evOp_build, ↓evOp_bslice, rhoP_nil, rhoP_cons, evCode_skip, evCode_region, evCode_draw, evCode_seq, evCode_cond, evCode_block, evCode_loop, evCode_exit, evCode_ret, seqK_ite, seqK_none, seqK_norm, seqK_ret, seqK_exit, seqK_pan, condK_true, condK_false, condK_bool, blockK_ite, blockK_none, blockK_norm, blockK_ret, blockK_exit, blockK_pan, stepK_ite, stepK_none, stepK_ok, stepK_pan, drawK_ite, drawK_none, drawK_ok, drawK_pan, opK_ite, opK_none, opK_val, opK_pan, wantK_true, wantK_false, wantK_some, afterRegion_ite, afterDraw_ite, fromBody_ite, ite_bool, ite_int, stepA_K, doOp, noOp, lexA_nil, lexA_cons, lexF_nil, lexF_cons, afterDraw, noClash, FP.clash, wantedA, evOp, rho, rhoL, ofC0, ofC, argsA, upd, afterRegion, putA, goOp, evBin_add, evBin_sub, evBin_mul, evBin_quo, evBin_rem, evBin_eql, evBin_neq, evBin_lss, evBin_leq, evBin_gtr, evBin_geq, evBin_eqlB, evBin_neqB, evBin_addS, evBin_eqlS, evBin_neqS, evBin_lssS, evBin_leqS, evUn, evConv, evIndex, evBuiltin, evLen, evMin2, evMax2, evCallee, evBox, evLoad, evStore, evFieldAddr, evField, evIndexAddr, evBuild, evBuildSlice, evElems, evSlice, nth, rdc, wrc, fromBody, resA, finRet, oneOf, AV.cells?, AV.isCell, fin_int, fin_bool, fin_str, lLoop, cutC, bodyOf, Try.f41, E_esc, k24, c24, a24, i24, hz, sq22, h1, h2, h3, hemb, hr, hi, bq3, hE2, ha1, hc1, ht1]
      rfl, by simp [upd, h1], by simp [upd, wrap64 1 (by omega)], ?_, rfl⟩
    rw [htx, if_pos rfl]
    simp [upd]
  · have hi0 : (0 : Int) < i := by omega
    have hi0' : 0 < i := by omega
    have hlt : (i : Int) < kids.length := by omega
    generalize joinT (txtL (kids.take i)) = J at *
    refine ⟨_, by
      simp (disch := first | (simp only [List.length_append, List.length_cons, List.length_nil]; omega) | (simp; done) | assumption) [↓evOp_build, ↓evOp_bslice, rhoP_nil, rhoP_cons, evCode_skip, evCode_region, evCode_draw, evCode_seq, evCode_cond, evCode_block, evCode_loop, evCode_exit, evCode_ret, seqK_ite, seqK_none, seqK_norm, seqK_ret, seqK_exit, seqK_pan, condK_true, condK_false, condK_bool, blockK_ite, blockK_none, blockK_norm, blockK_ret, blockK_exit, blockK_pan, stepK_ite, stepK_none, stepK_ok, stepK_pan, drawK_ite, drawK_none, drawK_ok, drawK_pan, opK_ite, opK_none, opK_val, opK_pan, wantK_true, wantK_false, wantK_some, afterRegion_ite, afterDraw_ite, fromBody_ite, ite_bool, ite_int, stepA_K, doOp, noOp, lexA_nil, lexA_cons, lexF_nil, lexF_cons, afterDraw, noClash, FP.clash, wantedA, evOp, rho, rhoL, ofC0, ofC, argsA, upd, afterRegion, putA, goOp, evBin_add, evBin_sub, evBin_mul, evBin_quo, evBin_rem, evBin_eql, evBin_neq, evBin_lss, evBin_leq, evBin_gtr, evBin_geq, evBin_eqlB, evBin_neqB, evBin_addS, evBin_eqlS, evBin_neqS, evBin_lssS, evBin_leqS, evUn, evConv, evIndex, evBuiltin, evLen, evMin2, evMax2, evCallee, evBox, evLoad, evStore, evFieldAddr, evField, evIndexAddr, evBuild, evBuildSlice, evElems, evSlice, nth, rdc, wrc, fromBody, resA, finRet, oneOf, AV.cells?, AV.isCell, fin_int, fin_bool, fin_str, lLoop, cutC, bodyOf, Try.f41, E_esc, k24, c24, a24, i24, hz, sq22, h1, h2, h3, hemb, hr, hi, hi0, hi0', hlt, bq3, hE2, ha1, hc1, ht1]
      rfl, by simp [upd, h1], by simp [upd, hw], ?_, rfl⟩
    rw [htx, if_neg h0]
    simp [upd]

theorem ev_list (n : Nat) (kids : List X) (tk : Bool) (S : St) (hl : kids.length < n) (hlen : kids.length ≤ 1099511627776) (hj : ∀ i, (joinT (txtL (kids.take i))).length ≤ 1099511627776) (ht : ∀ x ∈ kids, x.txt.length ≤ 1099511627776)
    (hrec : ∀ x ∈ kids, ∀ S, ev Try.prog E n 18 [x.emb] S = some (.ret (.str x.txt), S)) :
    ev Try.prog E (n + 1) 41 [.slice (embL kids) (tokOf tk)] S = some (.ret (.str (joinT (txtL kids))), S) := by
  have hE2 : (embL kids).length = kids.length := by rw [embL_map]; simp
  have key : ∀ fs, LI kids tk S 0 fs → ∃ fs', iter n (evCode ⟨Try.prog, E.esc 41, n⟩ (ev Try.prog E n) (E.ps 41) n lLoop) fs = some (.exit 0, fs') ∧ LI kids tk S kids.length fs' := fun fs h => by
    obtain ⟨⟨o, fs'⟩, r1, r2, r3⟩ := iter_range (Q := fun r => r.1 = .exit 0 ∧ LI kids tk S kids.length r.2) (len := kids.length) (fun i hi fs h => list_round n kids tk S hlen hj ht hrec i hi fs h)
      (fun fs h => by
        obtain ⟨t, b, v, S'⟩ := fs
        obtain ⟨h1, h2, h3, h4⟩ := h
        simp at h1 h2 h3 h4
        refine ⟨.exit 0, _, by
          simp (disch := first | (simp only [List.length_append, List.length_cons, List.length_nil]; omega) | (simp; done) | assumption) [↓evOp_build, ↓evOp_bslice, rhoP_nil, rhoP_cons, evCode_skip, evCode_region, evCode_draw, evCode_seq, evCode_cond, evCode_block, evCode_loop, evCode_exit, evCode_ret, seqK_ite, seqK_none, seqK_norm, seqK_ret, seqK_exit, seqK_pan, condK_true, condK_false, condK_bool, blockK_ite, blockK_none, blockK_norm, blockK_ret, blockK_exit, blockK_pan, stepK_ite, stepK_none, stepK_ok, stepK_pan, drawK_ite, drawK_none, drawK_ok, drawK_pan, opK_ite, opK_none, opK_val, opK_pan, wantK_true, wantK_false, wantK_some, afterRegion_ite, afterDraw_ite, fromBody_ite, ite_bool, ite_int, stepA_K, doOp, noOp, lexA_nil, lexA_cons, lexF_nil, lexF_cons, afterDraw, noClash, FP.clash, wantedA, evOp, rho, rhoL, ofC0, ofC, argsA, upd, afterRegion, putA, goOp, evBin_add, evBin_sub, evBin_mul, evBin_quo, evBin_rem, evBin_eql, evBin_neq, evBin_lss, evBin_leq, evBin_gtr, evBin_geq, evBin_eqlB, evBin_neqB, evBin_addS, evBin_eqlS, evBin_neqS, evBin_lssS, evBin_leqS, evUn, evConv, evIndex, evBuiltin, evLen, evMin2, evMax2, evCallee, evBox, evLoad, evStore, evFieldAddr, evField, evIndexAddr, evBuild, evBuildSlice, evElems, evSlice, nth, rdc, wrc, fromBody, resA, finRet, oneOf, AV.cells?, AV.isCell, fin_int, fin_bool, fin_str, lLoop, cutC, bodyOf, Try.f41, h1, h2, bq3, sq22, hE2]
          rfl, by simp, rfl, by simp [upd, h1], by simp [upd, h2], by simp [upd, h3], by simpa [upd] using h4⟩) kids.length 0 n fs (by omega) hl h
    simp only at r2
    subst r2
    exact ⟨fs', r1, r3⟩
  obtain ⟨⟨t, b, v, S'⟩, hr, g1, g2, g3, g4⟩ := key ⟨upd 4 (.int .i64 0) (upd 3 (.str []) (upd 2 (.str []) (argsA [.slice (embL kids) (tokOf tk)]))), fun _ => (0, []), 3, S⟩
    ⟨by simp [upd, argsA], by simp [upd], by simp [upd, txtL, joinT, Lib.join_nil], rfl⟩
  simp at g1 g2 g3 g4
  subst g4
  rw [ev_enter (n := n) (show E.ok 41 = true from rfl) Try.func41 f41b (Nat.le_of_ble_eq_true rfl) (by decide +kernel)]
  simp (disch := first | (simp only [List.length_append, List.length_cons, List.length_nil]; omega) | (simp; done) | assumption) [↓evOp_build, ↓evOp_bslice, rhoP_nil, rhoP_cons, evCode_skip, evCode_region, evCode_draw, evCode_seq, evCode_cond, evCode_block, evCode_loop, evCode_exit, evCode_ret, seqK_ite, seqK_none, seqK_norm, seqK_ret, seqK_exit, seqK_pan, condK_true, condK_false, condK_bool, blockK_ite, blockK_none, blockK_norm, blockK_ret, blockK_exit, blockK_pan, stepK_ite, stepK_none, stepK_ok, stepK_pan, drawK_ite, drawK_none, drawK_ok, drawK_pan, opK_ite, opK_none, opK_val, opK_pan, wantK_true, wantK_false, wantK_some, afterRegion_ite, afterDraw_ite, fromBody_ite, ite_bool, ite_int, stepA_K, doOp, noOp, lexA_nil, lexA_cons, lexF_nil, lexF_cons, afterDraw, noClash, FP.clash, wantedA, evOp, rho, rhoL, ofC0, ofC, argsA, upd, afterRegion, putA, goOp, evBin_add, evBin_sub, evBin_mul, evBin_quo, evBin_rem, evBin_eql, evBin_neq, evBin_lss, evBin_leq, evBin_gtr, evBin_geq, evBin_eqlB, evBin_neqB, evBin_addS, evBin_eqlS, evBin_neqS, evBin_lssS, evBin_leqS, evUn, evConv, evIndex, evBuiltin, evLen, evMin2, evMax2, evCallee, evBox, evLoad, evStore, evFieldAddr, evField, evIndexAddr, evBuild, evBuildSlice, evElems, evSlice, nth, rdc, wrc, fromBody, resA, finRet, oneOf, AV.cells?, AV.isCell, fin_int, fin_bool, fin_str, ll0, ll1, ll2, ll3, cutC, bodyOf, Try.f41, hr, g3]

theorem take_fit {l : List X} (h : fitL l) (i : Nat) : fitL (l.take i) ∧ bulkL (l.take i) ≤ bulkL l := by
  induction l generalizing i with
  | nil => simp [fitL]
  | cons x l ih =>
    cases i with
    | zero => simp [fitL, bulkL]
    | succ i =>
      have := ih h.2 i
      simp only [List.take_succ_cons, fitL, bulkL]
      exact ⟨⟨h.1, this.1⟩, by omega⟩

set_option maxHeartbeats 4000000 in
theorem ev_rExpr : ∀ (m : Nat) (x : X), x.bulk ≤ m → May x → x.fit → m ≤ 1048576 → ∀ n, 2 * m + 40 ≤ n → ∀ S, ev Try.prog E n 18 [x.emb] S = some (.ret (.str x.txt), S)
  | 0, x, hm, _, _, _, _, _, _ => by cases x; simp [X.bulk] at hm
  | m + 1, x, hm, hmay, hfit, hmm, n, hn, S => by
    obtain ⟨n, rfl⟩ : ∃ k, n = k + 3 := ⟨n - 3, by omega⟩
    obtain ⟨k, nm, a, lo, hi, tk, kids⟩ := x
    obtain ⟨f1, f2, f3, f4, f5, f6⟩ := hfit
    simp only [X.bulk] at hm
    have hsz := size_bulkL kids
    have hlen := sizeL_length kids
    have hrec : ∀ x ∈ kids, May x → ∀ S, ev Try.prog E (n + 1) 18 [x.emb] S = some (.ret (.str x.txt), S) := fun x hx hx' S =>
      ev_rExpr m x (by have := bulkL_mem hx; omega) hx' (fitL_mem hx f6) (by omega) (n + 1) (by omega) S
    have hrec2 : ∀ x ∈ kids, May x → ∀ S, ev Try.prog E (n + 2) 18 [x.emb] S = some (.ret (.str x.txt), S) := fun x hx hx' S =>
      ev_rExpr m x (by have := bulkL_mem hx; omega) hx' (fitL_mem hx f6) (by omega) (n + 2) (by omega) S
    have hj := join_bulk f6
    have hall : (∀ x ∈ kids, May x) → ∀ S, ev Try.prog E (n + 2) 41 [.slice (embL kids) (tokOf tk)] S = some (.ret (.str (joinT (txtL kids))), S) := fun h S =>
      ev_list (n + 1) kids tk S (by omega) (by omega) (fun i => by have := take_fit f6 i; have := join_bulk this.1; omega) (fun x hx => by have := txt_len x (fitL_mem hx f6); have := bulkL_mem hx; omega) fun x hx S => hrec x hx (h x hx) S
    have hfl := front_len (k := k) f3 f4
    have hE2 : (embL kids).length = kids.length := by rw [embL_map]; simp
    have p1 : E.ps 18 10 = [(0, 4), (1, 4)] := rfl
    have p3 : E.ps 18 11 = [(1, 8), (3, 8), (4, 8), (1, 13), (3, 13), (4, 13), (8, 13), (9, 13), (1, 15), (3, 15), (4, 15), (8, 15), (9, 15)] := rfl
    simp only [X.emb]
    rw [ev_enter (n := n + 2) (show E.ok 18 = true from rfl) Try.func18 (fn := Try.f18) rfl (Nat.le_of_ble_eq_true rfl) (by decide +kernel)]
    cases hmay with
    | set _ _ _ _ _ _ hk =>
      have ha := hall (fun x hx => by obtain ⟨_, _, _, _, _, rfl⟩ := hk x hx; exact .leaf _ _ _ _ _ _ (.inr (.inr (.inl rfl))) (by simp)) S
      generalize hJ : joinT (txtL kids) = J at *
      simp (disch := first | (simp only [List.length_append, List.length_cons, List.length_nil]; omega) | (simp; done) | assumption) [↓evOp_build, ↓evOp_bslice, rhoP_nil, rhoP_cons, evCode_skip, evCode_region, evCode_draw, evCode_seq, evCode_cond, evCode_block, evCode_loop, evCode_exit, evCode_ret, seqK_ite, seqK_none, seqK_norm, seqK_ret, seqK_exit, seqK_pan, condK_true, condK_false, condK_bool, blockK_ite, blockK_none, blockK_norm, blockK_ret, blockK_exit, blockK_pan, stepK_ite, stepK_none, stepK_ok, stepK_pan, drawK_ite, drawK_none, drawK_ok, drawK_pan, opK_ite, opK_none, opK_val, opK_pan, wantK_true, wantK_false, wantK_some, afterRegion_ite, afterDraw_ite, fromBody_ite, ite_bool, ite_int, stepA_K, doOp, noOp, lexA_nil, lexA_cons, lexF_nil, lexF_cons, afterDraw, noClash, FP.clash, wantedA, evOp, rho, rhoL, ofC0, ofC, argsA, upd, afterRegion, putA, goOp, evBin_add, evBin_sub, evBin_mul, evBin_quo, evBin_rem, evBin_eql, evBin_neq, evBin_lss, evBin_leq, evBin_gtr, evBin_geq, evBin_eqlB, evBin_neqB, evBin_addS, evBin_eqlS, evBin_neqS, evBin_lssS, evBin_leqS, evUn, evConv, evIndex, evBuiltin, evLen, evMin2, evMax2, evCallee, evBox, evLoad, evStore, evFieldAddr, evField, evIndexAddr, evBuild, evBuildSlice, evElems, evSlice, nth, rdc, wrc, fromBody, resA, finRet, oneOf, AV.cells?, AV.isCell, fin_int, fin_bool, fin_str, Try.f18, E_esc, k24, c24, a24, k3, c3, a3, k22, c22, a22, fq0, fq5, ha, X.txt, hJ]
    | leaf _ _ _ _ _ _ hk hb =>
      have hl : ev Try.prog E (n + 2) 42 [.agg [.int .i64 k, .str nm, .int .i64 a, .int .i64 lo, .int .i64 hi, .slice [] (tokOf tk)]] S = some (.ret (.str (leafT k nm a hi)), S) := ev_rleaf (n + 1) (by omega) k nm a lo hi (.slice [] (tokOf tk)) rfl hk hb f2 f4 (by omega) S
      rcases hk with rfl | rfl | rfl | rfl | rfl | rfl | rfl | rfl <;>
        simp (disch := first | (simp only [List.length_append, List.length_cons, List.length_nil]; omega) | (simp; done) | assumption) [↓evOp_build, ↓evOp_bslice, rhoP_nil, rhoP_cons, evCode_skip, evCode_region, evCode_draw, evCode_seq, evCode_cond, evCode_block, evCode_loop, evCode_exit, evCode_ret, seqK_ite, seqK_none, seqK_norm, seqK_ret, seqK_exit, seqK_pan, condK_true, condK_false, condK_bool, blockK_ite, blockK_none, blockK_norm, blockK_ret, blockK_exit, blockK_pan, stepK_ite, stepK_none, stepK_ok, stepK_pan, drawK_ite, drawK_none, drawK_ok, drawK_pan, opK_ite, opK_none, opK_val, opK_pan, wantK_true, wantK_false, wantK_some, afterRegion_ite, afterDraw_ite, fromBody_ite, ite_bool, ite_int, stepA_K, doOp, noOp, lexA_nil, lexA_cons, lexF_nil, lexF_cons, afterDraw, noClash, FP.clash, wantedA, evOp, rho, rhoL, ofC0, ofC, argsA, upd, afterRegion, putA, goOp, evBin_add, evBin_sub, evBin_mul, evBin_quo, evBin_rem, evBin_eql, evBin_neq, evBin_lss, evBin_leq, evBin_gtr, evBin_geq, evBin_eqlB, evBin_neqB, evBin_addS, evBin_eqlS, evBin_neqS, evBin_lssS, evBin_leqS, evUn, evConv, evIndex, evBuiltin, evLen, evMin2, evMax2, evCallee, evBox, evLoad, evStore, evFieldAddr, evField, evIndexAddr, evBuild, evBuildSlice, evElems, evSlice, nth, rdc, wrc, fromBody, resA, finRet, oneOf, AV.cells?, AV.isCell, fin_int, fin_bool, fin_str, Try.f18, E_esc, k24, c24, a24, k3, c3, a3, k22, c22, a22, fq0, fq5, sq22, hl, X.txt, embL]
    | one _ _ _ _ _ _ x hk hx =>
      have ha := hall (fun y hy => by simp at hy; subst hy; exact hx) S
      have hw : ∀ k, (k = 12 ∨ k = 25 ∨ k = 22 ∨ k = 23 ∨ k = 24) → ev Try.prog E (n + 2) 43 [.agg [.int .i64 k, .str nm, .int .i64 a, .int .i64 lo, .int .i64 hi, .slice (embL [x]) (tokOf tk)]] S = some (.ret (.str (frontT k lo hi)), S) := fun k hk => ev_front (n + 1) (by omega) k nm a lo hi _ rfl hk f3 f4 S
      have e1 := hrec2 x (by simp) hx S
      have l1 := txt_len x (fitL_mem (l := [x]) (by simp) f6)
      have l3 : x.bulk ≤ 1048576 := by have := bulkL_mem (x := x) (l := [x]) (by simp); omega
      obtain ⟨z, hz⟩ := ii24
      have ha1 := cells_all x
      have hc1 := (cells_ok x).2
      have ht1 : List.take 6 x.cells = x.cells := List.take_of_length_le (by omega)
      have hj1 : joinT (txtL [x]) = x.txt := by simp [joinT, txtL, Lib.join_one]
      simp only [emb_cells, embL] at e1 ha hw ⊢
      rw [hj1] at ha hj
      simp only [X.txt, hj1]
      generalize x.txt = t1 at *
      generalize x.cells = C1 at *
      have hfr := fun k => front_len (k := k) f3 f4
      rcases hk with rfl | rfl | rfl | rfl | rfl | rfl
      · simp (disch := first | (simp only [List.length_append, List.length_cons, List.length_nil]; omega) | (simp; done) | assumption) [↓evOp_build, ↓evOp_bslice, rhoP_nil, rhoP_cons, evCode_skip, evCode_region, evCode_draw, evCode_seq, evCode_cond, evCode_block, evCode_loop, evCode_exit, evCode_ret, seqK_ite, seqK_none, seqK_norm, seqK_ret, seqK_exit, seqK_pan, condK_true, condK_false, condK_bool, blockK_ite, blockK_none, blockK_norm, blockK_ret, blockK_exit, blockK_pan, stepK_ite, stepK_none, stepK_ok, stepK_pan, drawK_ite, drawK_none, drawK_ok, drawK_pan, opK_ite, opK_none, opK_val, opK_pan, wantK_true, wantK_false, wantK_some, afterRegion_ite, afterDraw_ite, fromBody_ite, ite_bool, ite_int, stepA_K, doOp, noOp, lexA_nil, lexA_cons, lexF_nil, lexF_cons, afterDraw, noClash, FP.clash, wantedA, evOp, rho, rhoL, ofC0, ofC, argsA, upd, afterRegion, putA, goOp, evBin_add, evBin_sub, evBin_mul, evBin_quo, evBin_rem, evBin_eql, evBin_neq, evBin_lss, evBin_leq, evBin_gtr, evBin_geq, evBin_eqlB, evBin_neqB, evBin_addS, evBin_eqlS, evBin_neqS, evBin_lssS, evBin_leqS, evUn, evConv, evIndex, evBuiltin, evLen, evMin2, evMax2, evCallee, evBox, evLoad, evStore, evFieldAddr, evField, evIndexAddr, evBuild, evBuildSlice, evElems, evSlice, nth, rdc, wrc, fromBody, resA, finRet, oneOf, AV.cells?, AV.isCell, fin_int, fin_bool, fin_str, Try.f18, E_esc, k24, c24, a24, k3, c3, a3, k22, c22, a22, fq0, fq5, sq22, e1, i24, hz, ha1, hc1, ht1]
      · have hq := hw 12 (by simp)
        have := hfr 12
        generalize frontT 12 lo hi = fr at *
        simp (disch := first | (simp only [List.length_append, List.length_cons, List.length_nil]; omega) | (simp; done) | assumption) [↓evOp_build, ↓evOp_bslice, rhoP_nil, rhoP_cons, evCode_skip, evCode_region, evCode_draw, evCode_seq, evCode_cond, evCode_block, evCode_loop, evCode_exit, evCode_ret, seqK_ite, seqK_none, seqK_norm, seqK_ret, seqK_exit, seqK_pan, condK_true, condK_false, condK_bool, blockK_ite, blockK_none, blockK_norm, blockK_ret, blockK_exit, blockK_pan, stepK_ite, stepK_none, stepK_ok, stepK_pan, drawK_ite, drawK_none, drawK_ok, drawK_pan, opK_ite, opK_none, opK_val, opK_pan, wantK_true, wantK_false, wantK_some, afterRegion_ite, afterDraw_ite, fromBody_ite, ite_bool, ite_int, stepA_K, doOp, noOp, lexA_nil, lexA_cons, lexF_nil, lexF_cons, afterDraw, noClash, FP.clash, wantedA, evOp, rho, rhoL, ofC0, ofC, argsA, upd, afterRegion, putA, goOp, evBin_add, evBin_sub, evBin_mul, evBin_quo, evBin_rem, evBin_eql, evBin_neq, evBin_lss, evBin_leq, evBin_gtr, evBin_geq, evBin_eqlB, evBin_neqB, evBin_addS, evBin_eqlS, evBin_neqS, evBin_lssS, evBin_leqS, evUn, evConv, evIndex, evBuiltin, evLen, evMin2, evMax2, evCallee, evBox, evLoad, evStore, evFieldAddr, evField, evIndexAddr, evBuild, evBuildSlice, evElems, evSlice, nth, rdc, wrc, fromBody, resA, finRet, oneOf, AV.cells?, AV.isCell, fin_int, fin_bool, fin_str, Try.f18, E_esc, k24, c24, a24, k3, c3, a3, k22, c22, a22, fq0, fq5, sq22, ha, hq, p1, ha1, hc1, ht1]
      · simp (disch := first | (simp only [List.length_append, List.length_cons, List.length_nil]; omega) | (simp; done) | assumption) [↓evOp_build, ↓evOp_bslice, rhoP_nil, rhoP_cons, evCode_skip, evCode_region, evCode_draw, evCode_seq, evCode_cond, evCode_block, evCode_loop, evCode_exit, evCode_ret, seqK_ite, seqK_none, seqK_norm, seqK_ret, seqK_exit, seqK_pan, condK_true, condK_false, condK_bool, blockK_ite, blockK_none, blockK_norm, blockK_ret, blockK_exit, blockK_pan, stepK_ite, stepK_none, stepK_ok, stepK_pan, drawK_ite, drawK_none, drawK_ok, drawK_pan, opK_ite, opK_none, opK_val, opK_pan, wantK_true, wantK_false, wantK_some, afterRegion_ite, afterDraw_ite, fromBody_ite, ite_bool, ite_int, stepA_K, doOp, noOp, lexA_nil, lexA_cons, lexF_nil, lexF_cons, afterDraw, noClash, FP.clash, wantedA, evOp, rho, rhoL, ofC0, ofC, argsA, upd, afterRegion, putA, goOp, evBin_add, evBin_sub, evBin_mul, evBin_quo, evBin_rem, evBin_eql, evBin_neq, evBin_lss, evBin_leq, evBin_gtr, evBin_geq, evBin_eqlB, evBin_neqB, evBin_addS, evBin_eqlS, evBin_neqS, evBin_lssS, evBin_leqS, evUn, evConv, evIndex, evBuiltin, evLen, evMin2, evMax2, evCallee, evBox, evLoad, evStore, evFieldAddr, evField, evIndexAddr, evBuild, evBuildSlice, evElems, evSlice, nth, rdc, wrc, fromBody, resA, finRet, oneOf, AV.cells?, AV.isCell, fin_int, fin_bool, fin_str, Try.f18, E_esc, k24, c24, a24, k3, c3, a3, k22, c22, a22, fq0, fq5, sq22, e1, i24, hz, ha1, hc1, ht1]
      · have hq := hw 22 (by simp)
        have := hfr 22
        generalize frontT 22 lo hi = fr at *
        simp (disch := first | (simp only [List.length_append, List.length_cons, List.length_nil]; omega) | (simp; done) | assumption) [↓evOp_build, ↓evOp_bslice, rhoP_nil, rhoP_cons, evCode_skip, evCode_region, evCode_draw, evCode_seq, evCode_cond, evCode_block, evCode_loop, evCode_exit, evCode_ret, seqK_ite, seqK_none, seqK_norm, seqK_ret, seqK_exit, seqK_pan, condK_true, condK_false, condK_bool, blockK_ite, blockK_none, blockK_norm, blockK_ret, blockK_exit, blockK_pan, stepK_ite, stepK_none, stepK_ok, stepK_pan, drawK_ite, drawK_none, drawK_ok, drawK_pan, opK_ite, opK_none, opK_val, opK_pan, wantK_true, wantK_false, wantK_some, afterRegion_ite, afterDraw_ite, fromBody_ite, ite_bool, ite_int, stepA_K, doOp, noOp, lexA_nil, lexA_cons, lexF_nil, lexF_cons, afterDraw, noClash, FP.clash, wantedA, evOp, rho, rhoL, ofC0, ofC, argsA, upd, afterRegion, putA, goOp, evBin_add, evBin_sub, evBin_mul, evBin_quo, evBin_rem, evBin_eql, evBin_neq, evBin_lss, evBin_leq, evBin_gtr, evBin_geq, evBin_eqlB, evBin_neqB, evBin_addS, evBin_eqlS, evBin_neqS, evBin_lssS, evBin_leqS, evUn, evConv, evIndex, evBuiltin, evLen, evMin2, evMax2, evCallee, evBox, evLoad, evStore, evFieldAddr, evField, evIndexAddr, evBuild, evBuildSlice, evElems, evSlice, nth, rdc, wrc, fromBody, resA, finRet, oneOf, AV.cells?, AV.isCell, fin_int, fin_bool, fin_str, Try.f18, E_esc, k24, c24, a24, k3, c3, a3, k22, c22, a22, fq0, fq5, sq22, ha, hq, p1, ha1, hc1, ht1]
      · have hq := hw 23 (by simp)
        have := hfr 23
        generalize frontT 23 lo hi = fr at *
        simp (disch := first | (simp only [List.length_append, List.length_cons, List.length_nil]; omega) | (simp; done) | assumption) [↓evOp_build, ↓evOp_bslice, rhoP_nil, rhoP_cons, evCode_skip, evCode_region, evCode_draw, evCode_seq, evCode_cond, evCode_block, evCode_loop, evCode_exit, evCode_ret, seqK_ite, seqK_none, seqK_norm, seqK_ret, seqK_exit, seqK_pan, condK_true, condK_false, condK_bool, blockK_ite, blockK_none, blockK_norm, blockK_ret, blockK_exit, blockK_pan, stepK_ite, stepK_none, stepK_ok, stepK_pan, drawK_ite, drawK_none, drawK_ok, drawK_pan, opK_ite, opK_none, opK_val, opK_pan, wantK_true, wantK_false, wantK_some, afterRegion_ite, afterDraw_ite, fromBody_ite, ite_bool, ite_int, stepA_K, doOp, noOp, lexA_nil, lexA_cons, lexF_nil, lexF_cons, afterDraw, noClash, FP.clash, wantedA, evOp, rho, rhoL, ofC0, ofC, argsA, upd, afterRegion, putA, goOp, evBin_add, evBin_sub, evBin_mul, evBin_quo, evBin_rem, evBin_eql, evBin_neq, evBin_lss, evBin_leq, evBin_gtr, evBin_geq, evBin_eqlB, evBin_neqB, evBin_addS, evBin_eqlS, evBin_neqS, evBin_lssS, evBin_leqS, evUn, evConv, evIndex, evBuiltin, evLen, evMin2, evMax2, evCallee, evBox, evLoad, evStore, evFieldAddr, evField, evIndexAddr, evBuild, evBuildSlice, evElems, evSlice, nth, rdc, wrc, fromBody, resA, finRet, oneOf, AV.cells?, AV.isCell, fin_int, fin_bool, fin_str, Try.f18, E_esc, k24, c24, a24, k3, c3, a3, k22, c22, a22, fq0, fq5, sq22, ha, hq, p1, ha1, hc1, ht1]
      · have hq := hw 25 (by simp)
        have := hfr 25
        generalize frontT 25 lo hi = fr at *
        simp (disch := first | (simp only [List.length_append, List.length_cons, List.length_nil]; omega) | (simp; done) | assumption) [↓evOp_build, ↓evOp_bslice, rhoP_nil, rhoP_cons, evCode_skip, evCode_region, evCode_draw, evCode_seq, evCode_cond, evCode_block, evCode_loop, evCode_exit, evCode_ret, seqK_ite, seqK_none, seqK_norm, seqK_ret, seqK_exit, seqK_pan, condK_true, condK_false, condK_bool, blockK_ite, blockK_none, blockK_norm, blockK_ret, blockK_exit, blockK_pan, stepK_ite, stepK_none, stepK_ok, stepK_pan, drawK_ite, drawK_none, drawK_ok, drawK_pan, opK_ite, opK_none, opK_val, opK_pan, wantK_true, wantK_false, wantK_some, afterRegion_ite, afterDraw_ite, fromBody_ite, ite_bool, ite_int, stepA_K, doOp, noOp, lexA_nil, lexA_cons, lexF_nil, lexF_cons, afterDraw, noClash, FP.clash, wantedA, evOp, rho, rhoL, ofC0, ofC, argsA, upd, afterRegion, putA, goOp, evBin_add, evBin_sub, evBin_mul, evBin_quo, evBin_rem, evBin_eql, evBin_neq, evBin_lss, evBin_leq, evBin_gtr, evBin_geq, evBin_eqlB, evBin_neqB, evBin_addS, evBin_eqlS, evBin_neqS, evBin_lssS, evBin_leqS, evUn, evConv, evIndex, evBuiltin, evLen, evMin2, evMax2, evCallee, evBox, evLoad, evStore, evFieldAddr, evField, evIndexAddr, evBuild, evBuildSlice, evElems, evSlice, nth, rdc, wrc, fromBody, resA, finRet, oneOf, AV.cells?, AV.isCell, fin_int, fin_bool, fin_str, Try.f18, E_esc, k24, c24, a24, k3, c3, a3, k22, c22, a22, fq0, fq5, sq22, ha, hq, p1, ha1, hc1, ht1]
    | two _ _ _ _ _ _ x y hk hx hy =>
      have ha := hall (fun z hz => by simp at hz; rcases hz with rfl | rfl <;> assumption) S
      have hs : ∀ k, (k = 8 ∨ k = 9 ∨ k = 10 ∨ k = 14 ∨ k = 15 ∨ k = 16 ∨ k = 17 ∨ k = 19 ∨ k = 20) → ev Try.prog E (n + 2) 44 [.int .i64 k] S = some (.ret (.str (signT k)), S) := fun k hk => ev_between (n + 1) k hk S
      have hq : ev Try.prog E (n + 2) 43 [.agg [.int .i64 24, .str nm, .int .i64 a, .int .i64 lo, .int .i64 hi, .slice (embL [x, y]) (tokOf tk)]] S = some (.ret (.str (frontT 24 lo hi)), S) := ev_front (n + 1) (by omega) 24 nm a lo hi _ rfl (by simp) f3 f4 S
      have hf24 := front_len (k := 24) f3 f4
      have e1 := hrec2 x (by simp) hx S
      have e2 := hrec2 y (by simp) hy S
      have l1 := txt_len x (fitL_mem (l := [x, y]) (by simp) f6)
      have l2 := txt_len y (fitL_mem (l := [x, y]) (by simp) f6)
      have l3 : x.bulk ≤ 1048576 := by have := bulkL_mem (x := x) (l := [x, y]) (by simp); omega
      have l4 : y.bulk ≤ 1048576 := by have := bulkL_mem (x := y) (l := [x, y]) (by simp); omega
      obtain ⟨z, hz⟩ := ii24
      have ha1 := cells_all x
      have ha2 := cells_all y
      have hc1 := (cells_ok x).2
      have hc2 := (cells_ok y).2
      have ht1 : List.take 6 x.cells = x.cells := List.take_of_length_le (by omega)
      have ht2 : List.take 6 y.cells = y.cells := List.take_of_length_le (by omega)
      simp only [emb_cells, embL] at e1 e2 ha hq ⊢
      rcases hk with rfl | rfl | rfl | rfl | rfl | rfl | rfl | rfl | rfl | rfl
      rotate_right 1
      · simp only [X.txt]
        generalize hJ : joinT (txtL [x, y]) = J at *
        generalize frontT 24 lo hi = fr at *
        generalize x.cells = C1 at *
        generalize y.cells = C2 at *
        simp (disch := first | (simp only [List.length_append, List.length_cons, List.length_nil]; omega) | (simp; done) | assumption) [↓evOp_build, ↓evOp_bslice, rhoP_nil, rhoP_cons, evCode_skip, evCode_region, evCode_draw, evCode_seq, evCode_cond, evCode_block, evCode_loop, evCode_exit, evCode_ret, seqK_ite, seqK_none, seqK_norm, seqK_ret, seqK_exit, seqK_pan, condK_true, condK_false, condK_bool, blockK_ite, blockK_none, blockK_norm, blockK_ret, blockK_exit, blockK_pan, stepK_ite, stepK_none, stepK_ok, stepK_pan, drawK_ite, drawK_none, drawK_ok, drawK_pan, opK_ite, opK_none, opK_val, opK_pan, wantK_true, wantK_false, wantK_some, afterRegion_ite, afterDraw_ite, fromBody_ite, ite_bool, ite_int, stepA_K, doOp, noOp, lexA_nil, lexA_cons, lexF_nil, lexF_cons, afterDraw, noClash, FP.clash, wantedA, evOp, rho, rhoL, ofC0, ofC, argsA, upd, afterRegion, putA, goOp, evBin_add, evBin_sub, evBin_mul, evBin_quo, evBin_rem, evBin_eql, evBin_neq, evBin_lss, evBin_leq, evBin_gtr, evBin_geq, evBin_eqlB, evBin_neqB, evBin_addS, evBin_eqlS, evBin_neqS, evBin_lssS, evBin_leqS, evUn, evConv, evIndex, evBuiltin, evLen, evMin2, evMax2, evCallee, evBox, evLoad, evStore, evFieldAddr, evField, evIndexAddr, evBuild, evBuildSlice, evElems, evSlice, nth, rdc, wrc, fromBody, resA, finRet, oneOf, AV.cells?, AV.isCell, fin_int, fin_bool, fin_str, Try.f18, E_esc, k24, c24, a24, k3, c3, a3, k22, c22, a22, fq0, fq5, sq22, ha, hq, p1, ha1, hc1, ht1, ha2, hc2, ht2]
      all_goals
        simp only [X.txt, txtL]
        generalize x.txt = t1 at *
        generalize y.txt = t2 at *
        generalize x.cells = C1 at *
        generalize y.cells = C2 at *
        simp (disch := first | (simp only [List.length_append, List.length_cons, List.length_nil]; omega) | (simp; done) | assumption) [↓evOp_build, ↓evOp_bslice, rhoP_nil, rhoP_cons, evCode_skip, evCode_region, evCode_draw, evCode_seq, evCode_cond, evCode_block, evCode_loop, evCode_exit, evCode_ret, seqK_ite, seqK_none, seqK_norm, seqK_ret, seqK_exit, seqK_pan, condK_true, condK_false, condK_bool, blockK_ite, blockK_none, blockK_norm, blockK_ret, blockK_exit, blockK_pan, stepK_ite, stepK_none, stepK_ok, stepK_pan, drawK_ite, drawK_none, drawK_ok, drawK_pan, opK_ite, opK_none, opK_val, opK_pan, wantK_true, wantK_false, wantK_some, afterRegion_ite, afterDraw_ite, fromBody_ite, ite_bool, ite_int, stepA_K, doOp, noOp, lexA_nil, lexA_cons, lexF_nil, lexF_cons, afterDraw, noClash, FP.clash, wantedA, evOp, rho, rhoL, ofC0, ofC, argsA, upd, afterRegion, putA, goOp, evBin_add, evBin_sub, evBin_mul, evBin_quo, evBin_rem, evBin_eql, evBin_neq, evBin_lss, evBin_leq, evBin_gtr, evBin_geq, evBin_eqlB, evBin_neqB, evBin_addS, evBin_eqlS, evBin_neqS, evBin_lssS, evBin_leqS, evUn, evConv, evIndex, evBuiltin, evLen, evMin2, evMax2, evCallee, evBox, evLoad, evStore, evFieldAddr, evField, evIndexAddr, evBuild, evBuildSlice, evElems, evSlice, nth, rdc, wrc, fromBody, resA, finRet, oneOf, AV.cells?, AV.isCell, fin_int, fin_bool, fin_str, Try.f18, E_esc, k24, c24, a24, k3, c3, a3, k22, c22, a22, fq0, fq5, sq22, hs, e1, e2, i24, hz, p3, binT, signT, ha1, ha2, hc1, hc2, ht1, ht2]
end Go.Proofs.Ytemggoaefohliaa.PT

