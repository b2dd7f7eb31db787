/- An expression: its types, what it is to the evaluator, what an input of it reads as. No condition. -/
import Derived.Test.YtemggoaefohliaaRows
import Derived.Test.YtemggoaefohliaaAeO
import Derived.Test.YtemggoaefohliaaBulk
import Derived.KernelRfl
namespace Go.Proofs.Ytemggoaefohliaa.EX
set_option linter.unusedVariables false
set_option linter.unusedSimpArgs false
open Go AE
open Go.ChangeShapes Go.WideShapes Go.RowKit
set_option maxRecDepth 100000

theorem c24 : Try.prog.cellsOf 24 = 6 := by kernel_rfl
theorem c22 : Try.prog.cellsOf 22 = 1 := by kernel_rfl
theorem c3 : Try.prog.cellsOf 3 = 1 := by kernel_rfl
theorem c2 : Try.prog.cellsOf 2 = 1 := by kernel_rfl
theorem a24 : aggQ Try.prog 24 = true := by kernel_rfl
theorem a22 : aggQ Try.prog 22 = false := by kernel_rfl
theorem a3 : aggQ Try.prog 3 = false := by kernel_rfl
theorem a2 : aggQ Try.prog 2 = false := by kernel_rfl
theorem k24 : knownQ Try.prog 24 = true := by kernel_rfl
theorem k22 : knownQ Try.prog 22 = true := by kernel_rfl
theorem k3 : knownQ Try.prog 3 = true := by kernel_rfl
theorem k2 : knownQ Try.prog 2 = true := by kernel_rfl
theorem fq0 : fieldQ Try.prog 24 0 = some (0, 1, false) := by kernel_rfl
theorem fq4 : fieldQ Try.prog 24 4 = some (4, 1, false) := by kernel_rfl
theorem fq5 : fieldQ Try.prog 24 5 = some (5, 1, false) := by kernel_rfl
theorem sq22 : sliceQ Try.prog 22 = some 24 := by kernel_rfl
theorem z24 : zeroQ Try.prog 24 = some [.int .i64 0, .str [], .int .i64 0, .int .i64 0, .int .i64 0, .slice [] .clip] := by kernel_rfl
theorem z3 : zeroQ Try.prog 3 = some [.int .i64 0] := by kernel_rfl
theorem z2 : zeroQ Try.prog 2 = some [.int .i64 0] := by kernel_rfl
theorem iq3 : intQ Try.prog 3 = some .i64 := by kernel_rfl
theorem bq3 : boolQ Try.prog 3 = false := by kernel_rfl
theorem bq4 : boolQ Try.prog 4 = true := by kernel_rfl
theorem bq2 : boolQ Try.prog 2 = false := by kernel_rfl

attribute [go_sem] c24 c22 c3 c2 a24 a22 a3 a2 k24 k22 k3 k2 fq0 fq4 fq5 sq22 z24 z3 z2 iq3 bq3 bq4 bq2

theorem i3 : (Try.prog.info? 3).isSome = true := by kernel_rfl
theorem i24 : (Try.prog.info? 24).isSome = true := by kernel_rfl
theorem i2 : (Try.prog.info? 2).isSome = true := by kernel_rfl
theorem ii24 : ∃ x, Try.prog.info? 24 = some x := Option.isSome_iff_exists.1 i24

theorem c9 : Try.prog.cellsOf 9 = 1 := by kernel_rfl
theorem u2 : Try.prog.underlying 2 = some (.int .i64) := by kernel_rfl
theorem u3 : Try.prog.underlying 3 = some (.int .i64) := by kernel_rfl
theorem u9 : Try.prog.underlying 9 = some .string := by kernel_rfl
theorem u22 : Try.prog.underlying 22 = some (.slice 24) := by kernel_rfl

/-- an expression -/
inductive X where
  | mk (k : Int) (nm : List UInt8) (n lo hi : Int) (tok : Bool) (kids : List X)
def tokOf : Bool → Tok
  | true => .clip
  | false => .non
mutual
def X.emb : X → AV
  | .mk k nm n lo hi tok kids => .agg [.int .i64 k, .str nm, .int .i64 n, .int .i64 lo, .int .i64 hi, .slice (embL kids) (tokOf tok)]
def embL : List X → List AV
  | [] => []
  | x :: l => x.emb :: embL l
end
mutual
def X.size : X → Nat
  | .mk _ _ _ _ _ _ kids => 1 + sizeL kids
def sizeL : List X → Nat
  | [] => 0
  | x :: l => x.size + sizeL l
end
theorem embL_map : ∀ l : List X, embL l = l.map X.emb
  | [] => rfl
  | x :: l => by simp [embL, embL_map l]
theorem size_pos (x : X) : 1 ≤ x.size := by
  cases x; simp [X.size]
theorem sizeL_mem {x : X} : ∀ {l : List X}, x ∈ l → x.size ≤ sizeL l
  | y :: l, h => by
    rcases List.mem_cons.1 h with rfl | h
    · simp [sizeL]
    · have := sizeL_mem h; simp [sizeL]; omega
theorem sizeL_length : ∀ l : List X, l.length ≤ sizeL l
  | [] => by simp [sizeL]
  | x :: l => by have := sizeL_length l; have := size_pos x; simp [sizeL]; omega
mutual
theorem sealed_emb : ∀ x : X, x.emb.sealed = true
  | .mk _ _ _ _ _ _ kids => by simp [X.emb, AV.sealed, AV.sealedL, sealed_embL kids]
theorem sealed_embL : ∀ l : List X, AV.sealedL (embL l) = true
  | [] => rfl
  | x :: l => by simp [embL, AV.sealedL, sealed_emb x, sealed_embL l]
end

theorem wrap64 (n : Int) (h : -9223372036854775808 ≤ n ∧ n < 9223372036854775808) : IntKind.i64.wrap n = n := by
  simp [IntKind.wrap, IntKind.bits, IntKind.signed]; omega
theorem sizeL_append : ∀ a b : List X, sizeL (a ++ b) = sizeL a + sizeL b
  | [], b => by simp [sizeL]
  | x :: a, b => by simp [sizeL, sizeL_append a b]; omega
theorem fin0 {S S' : St} (h1 : S'.H.length = S.H.length) (h2 : S'.T = S.T) : finish S (.tup []) S' = some (.tup [], S') :=
  finish_same rfl rfl rfl h1 h2
theorem fin_int (k : IntKind) (n : Int) (S : St) : finish S (.int k n) S = some (.int k n, S) := finish_same rfl rfl rfl rfl rfl
theorem fin_str (s : List UInt8) (S : St) : finish S (.str s) S = some (.str s, S) := finish_same rfl rfl rfl rfl rfl
theorem fin_bool (S : St) (b : Bool) : finish S (.bool b) S = some (.bool b, S) := finish_same rfl rfl rfl rfl rfl

def in64 (n : Int) : Prop := -9223372036854775808 ≤ n ∧ n ≤ 9223372036854775807
mutual
/-- its numbers are numbers of 64 bits; nothing of it is to be appended to -/
def X.fit : X → Prop
  | .mk k _ n lo hi tok kids => in64 k ∧ in64 n ∧ in64 lo ∧ in64 hi ∧ tok = false ∧ fitL kids
def fitL : List X → Prop
  | [] => True
  | x :: l => x.fit ∧ fitL l
end
mutual
/-- how much of it there is, at the least, to a reader -/
def X.bulk : X → Nat
  | .mk _ nm _ _ _ _ kids => 7 + nm.length + bulkL kids
def bulkL : List X → Nat
  | [] => 0
  | x :: l => x.bulk + bulkL l
end
mutual
theorem size_bulk : ∀ x : X, x.size ≤ x.bulk
  | .mk _ nm _ _ _ _ kids => by have := size_bulkL kids; simp only [X.size, X.bulk]; omega
theorem size_bulkL : ∀ l : List X, sizeL l ≤ bulkL l
  | [] => by simp [sizeL]
  | x :: l => by have := size_bulk x; have := size_bulkL l; simp only [sizeL, bulkL]; omega
end

def X.cells : X → List AV
  | .mk k nm n lo hi tok kids => [.int .i64 k, .str nm, .int .i64 n, .int .i64 lo, .int .i64 hi, .slice (embL kids) (tokOf tok)]
theorem emb_cells (x : X) : x.emb = .agg x.cells := by cases x; rfl
theorem cells_ok (x : X) : x.emb.cells? = some x.cells ∧ x.cells.length = 6 := by
  cases x; exact ⟨by simp [X.emb, X.cells, AV.cells?, AV.isCell], rfl⟩

theorem bulkL_le {H : Type} : ∀ (xs : List X) (ys : List (DataW H × List MemPlace)), ys.length = xs.length → (∀ (i : Nat) (x : X), xs[i]? = some x → ∃ y, ys[i]? = some y ∧ x.bulk ≤ Rows.uptoBulk y.1 ∧ x.fit) →
    bulkL xs ≤ Rows.uptoBulkAll (ys.map (·.1)) ∧ fitL xs
  | [], _, _, _ => by simp [bulkL, fitL]
  | x :: xs, [], h, _ => by simp at h
  | x :: xs, y :: ys, h, hq => by
    have h1 := bulkL_le xs ys (by simpa using h) fun i x' hx => by simpa using hq (i + 1) x' (by simpa using hx)
    obtain ⟨y', e, h2, h3⟩ := hq 0 x rfl
    simp at e
    subst e
    simp only [bulkL, fitL, List.map_cons, Rows.uptoBulkAll]
    exact ⟨by omega, h3, h1.2⟩

theorem wf64 {n : Int} (h : (Lit.int .i64 n).wf = true) : in64 n := by
  simp [Lit.wf, IntKind.min, IntKind.max, IntKind.signed, IntKind.bits] at h
  unfold in64
  omega

/-- AN EXPRESSION READ: it is one; its bulk is what the reader says, at the most. -/
theorem read_expr {H : Type} {enc : TypeId × Value → H} {W : World} {held : Bool} : ∀ (fuel : Nat) (cs : List Value) (x : DataW H × List MemPlace), DataW.trod enc Try.prog W 0 (fun _ => true) held fuel 24 cs = some x →
    ∃ e : X, VRL (gh0 W) e.cells cs ∧ e.bulk ≤ Rows.uptoBulk x.1 ∧ e.fit := by
  intro fuel
  induction fuel using Nat.strongRecOn with
  | _ fuel ih =>
  intro cs x h
  obtain ⟨xs, n, hf, rfl, hl, hxl, hfs⟩ := DataW.trod_struct Try.underlying24 h
  rw [c24] at hl
  match cs, hl with
  | [v0, v1, v2, v3, v4, v5], _ =>
  match xs, hxl with
  | [x0, x1, x2, x3, x4, x5], _ =>
  have g0 : DataW.trod enc Try.prog W 0 (fun _ => true) held n 3 [v0] = some x0 := by simpa [c3] using hfs 0 _ rfl
  have g1 : DataW.trod enc Try.prog W 0 (fun _ => true) held n 9 [v1] = some x1 := by simpa [c9] using hfs 1 _ rfl
  have g2 : DataW.trod enc Try.prog W 0 (fun _ => true) held n 2 [v2] = some x2 := by simpa [c2] using hfs 2 _ rfl
  have g3 : DataW.trod enc Try.prog W 0 (fun _ => true) held n 2 [v3] = some x3 := by simpa [c2] using hfs 3 _ rfl
  have g4 : DataW.trod enc Try.prog W 0 (fun _ => true) held n 2 [v4] = some x4 := by simpa [c2] using hfs 4 _ rfl
  have g5 : DataW.trod enc Try.prog W 0 (fun _ => true) held n 22 [v5] = some x5 := by simpa [c22] using hfs 5 _ rfl
  clear hfs h
  obtain ⟨k, e0, rfl, w0⟩ := DataW.trod_int u3 g0
  obtain ⟨nm, e1, rfl, w1⟩ := DataW.trod_string u9 g1
  obtain ⟨a, e2, rfl, w2⟩ := DataW.trod_int u2 g2
  obtain ⟨lo, e3, rfl, w3⟩ := DataW.trod_int u2 g3
  obtain ⟨hi, e4, rfl, w4⟩ := DataW.trod_int u2 g4
  cases e0; cases e1; cases e2; cases e3; cases e4
  obtain ⟨kids, hk, hq⟩ := slice_open (α := X) (emb := X.emb) (cl := X.cells) (Q := fun x y => x.bulk ≤ Rows.uptoBulk y.1 ∧ x.fit) (sz := 6) (by omega) u22 c24 cells_ok g5 fun n' cs y hn hy => ih n' (by omega) cs y hy
  rw [← embL_map] at hk
  cases hk with
  | cons _ _ _ _ hk _ =>
  have hb : bulkL kids + 1 ≤ Rows.uptoBulk x5.1 ∧ fitL kids := by
    rcases hq with ⟨rfl, hx⟩ | ⟨ys, rest, hx, hl, hq⟩
    · rw [hx]; simp [bulkL, Rows.uptoBulk, fitL]
    · have := bulkL_le kids ys hl hq
      rw [hx]
      simp only [Rows.uptoBulk]
      exact ⟨by omega, this.2⟩
  refine ⟨.mk k nm.data.toList a lo hi false kids, ?_, ?_, ?_⟩
  · exact .cons _ _ _ _ (.int _ _) (.cons _ _ _ _ (.str _) (.cons _ _ _ _ (.int _ _) (.cons _ _ _ _ (.int _ _) (.cons _ _ _ _ (.int _ _) (.cons _ _ _ _ hk .nil)))))
  · simp only [X.bulk, List.map_cons, List.map_nil, Rows.uptoBulk, Rows.uptoBulkAll]
    omega
  · exact ⟨wf64 w0, wf64 w2, wf64 w3, wf64 w4, rfl, hb.2⟩

/-- an argument of an expression's type -/
theorem open_expr {H : Type} {enc : TypeId × Value → H} {W : World} {base : Nat} {held : Bool} {v : Value} {d : DataW H} {ps : List MemPlace} (hval : Value.okWide Try.prog W .any base 24 v) (h : DataW.Trod enc Try.prog W 0 (fun _ => true) held 24 v d ps) :
    ∃ e : X, VR (gh0 W) e.emb v ∧ e.bulk ≤ Rows.uptoBulk d ∧ e.fit := by
  simp only [Value.okWide, Try.underlying24] at hval
  obtain ⟨cs, rfl, _, _⟩ := hval
  obtain ⟨fuel, h⟩ := h
  obtain ⟨e, h1, h2, h3⟩ := read_expr fuel _ _ h
  exact ⟨e, by rw [emb_cells]; exact .agg _ _ h1, h2, h3⟩
end Go.Proofs.Ytemggoaefohliaa.EX
