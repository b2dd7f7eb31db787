/- Joined: Bulk, ExA, Shelf, IndX, ShelfJ, JoinX, DeA, PtJ, PtK, PtL, PtM, PtN, PtO, PtP, PtQ, PtR, NfA, NfB, NfC, NfD, NfE, NfF, NfG, NfH, TyA. No condition beyond those of its lemmas. -/
import Derived.Test.YtcpoinfdnimanaaGreatDoorRows
import Derived.Test.YtcpoinfdnimanaaGreatDoorJfD
import Derived.KernelRfl
import Derived.Shelf.Small.Strs
import Derived.Shelf.Strings.Search1
import Derived.Shelf.Bits.Mul64
import Derived.Test.YtcpoinfdnimanaaGreatDoorProg
import Derived.Shelf.Strings.OnBuilder
/-
  FOR A PROOF OF AN '..UptoSaid': WHAT THE BOUND GIVES. Copy it as <Name>Bulk.lean (put your seat's Name for YtcpoinfdnimanaaGreatDoor, the bound of 'uptoSmall' for 1048576), name it in GOCLAIM.json's 'order' behind <Name>Rows. By an AI agent, Sun Nov 15 2026. No person has read it. No macro, syntax, notation, axiom, sorry.
-/
namespace Go.Proofs.YtcpoinfdnimanaaGreatDoor.bulks

theorem one_le {H : Type} (d : DataW H) : 1 ≤ Rows.uptoBulk d := by
  cases d with
  | lit l => cases l <;> simp [Rows.uptoBulk]
  | nil => simp [Rows.uptoBulk]
  | ptr d => simp [Rows.uptoBulk]
  | slice elems spare => simp [Rows.uptoBulk]
  | agg parts => simp [Rows.uptoBulk]
  | iface t d => simp [Rows.uptoBulk]
  | map entries => simp [Rows.uptoBulk]
  | held h => simp [Rows.uptoBulk]

/-- a part's bulk is at most the whole's -/
theorem part_le {H : Type} {d : DataW H} {l : List (DataW H)} (h : d ∈ l) : Rows.uptoBulk d ≤ Rows.uptoBulkAll l := by
  induction l with
  | nil => cases h
  | cons x r ih =>
    simp only [Rows.uptoBulkAll]
    cases List.mem_cons.1 h with
    | inl e => subst e; omega
    | inr e => have := ih e; omega

theorem append {H : Type} (l r : List (DataW H)) : Rows.uptoBulkAll (l ++ r) = Rows.uptoBulkAll l + Rows.uptoBulkAll r := by
  induction l with
  | nil => simp [Rows.uptoBulkAll]
  | cons x l ih => simp only [List.cons_append, Rows.uptoBulkAll, ih]; omega

/-- so many values at the most -/
theorem length_le {H : Type} (l : List (DataW H)) : l.length ≤ Rows.uptoBulkAll l := by
  induction l with
  | nil => simp [Rows.uptoBulkAll]
  | cons x r ih => have := one_le x; simp only [Rows.uptoBulkAll, List.length_cons]; omega

/-- a slice's places, and what they hold -/
theorem slice_le {H : Type} (elems spare : List (DataW H)) : elems.length + spare.length + 1 ≤ Rows.uptoBulk (.slice elems spare) := by
  have h1 := length_le elems
  have h2 := length_le spare
  simp only [Rows.uptoBulk]
  omega
theorem slice_elems {H : Type} (elems spare : List (DataW H)) : Rows.uptoBulkAll elems + 1 ≤ Rows.uptoBulk (.slice elems spare) := by
  simp only [Rows.uptoBulk]
  omega

/-- a string's letters -/
theorem string_eq {H : Type} (bytes : List UInt8) : Rows.uptoBulk (DataW.lit (H := H) (.string bytes)) = bytes.length + 1 := by
  simp [Rows.uptoBulk]

/-- THE BOUND, as the builder hands it over ('hk') -/
theorem bound {H : Type} {l : List (DataW H)} (hk : Rows.uptoSmall H l = true) : Rows.uptoBulkAll l ≤ 1048576 := by
  simpa [Rows.uptoSmall] using hk

/-- ROOM: a slice of n elements of b bytes, grown by append: below the 2^48 bytes that append, make and a Builder bear. Here n up to 2^21, b up to 4,096: put your own numbers. -/
theorem room {n b : Nat} (hn : n ≤ 2097152) (hb : b ≤ 4096) : (n + n / 4 + 192) * b ≤ 281474976710656 := by
  have h : (n + n / 4 + 192) * b ≤ 2621632 * 4096 := Nat.mul_le_mul (by omega) hb
  omega

end Go.Proofs.YtcpoinfdnimanaaGreatDoor.bulks
/- An expression: its types, what it is to the evaluator, what an input of it reads as. No condition. -/
namespace Go.Proofs.YtcpoinfdnimanaaGreatDoor.EX
set_option linter.unusedVariables false
set_option linter.unusedSimpArgs false
open Go AE
open Go.ChangeShapes Go.WideShapes Go.RowKit
set_option maxRecDepth 100000

theorem c24 : Tryz.prog.cellsOf 33 = 6 := by kernel_rfl
theorem c22 : Tryz.prog.cellsOf 31 = 1 := by kernel_rfl
theorem c3 : Tryz.prog.cellsOf 3 = 1 := by kernel_rfl
theorem c2 : Tryz.prog.cellsOf 2 = 1 := by kernel_rfl
theorem a24 : aggQ Tryz.prog 33 = true := by kernel_rfl
theorem a22 : aggQ Tryz.prog 31 = false := by kernel_rfl
theorem a3 : aggQ Tryz.prog 3 = false := by kernel_rfl
theorem a2 : aggQ Tryz.prog 2 = false := by kernel_rfl
theorem k24 : knownQ Tryz.prog 33 = true := by kernel_rfl
theorem k22 : knownQ Tryz.prog 31 = true := by kernel_rfl
theorem k3 : knownQ Tryz.prog 3 = true := by kernel_rfl
theorem k2 : knownQ Tryz.prog 2 = true := by kernel_rfl
theorem fq0 : fieldQ Tryz.prog 33 0 = some (0, 1, false) := by kernel_rfl
theorem fq4 : fieldQ Tryz.prog 33 4 = some (4, 1, false) := by kernel_rfl
theorem fq5 : fieldQ Tryz.prog 33 5 = some (5, 1, false) := by kernel_rfl
theorem sq22 : sliceQ Tryz.prog 31 = some 33 := by kernel_rfl
theorem z24 : zeroQ Tryz.prog 33 = some [.int .i64 0, .str [], .int .i64 0, .int .i64 0, .int .i64 0, .slice [] .clip] := by kernel_rfl
theorem z3 : zeroQ Tryz.prog 3 = some [.int .i64 0] := by kernel_rfl
theorem z2 : zeroQ Tryz.prog 2 = some [.int .i64 0] := by kernel_rfl
theorem iq3 : intQ Tryz.prog 3 = some .i64 := by kernel_rfl
theorem bq3 : boolQ Tryz.prog 3 = false := by kernel_rfl
theorem bq4 : boolQ Tryz.prog 4 = true := by kernel_rfl
theorem bq2 : boolQ Tryz.prog 2 = false := by kernel_rfl

attribute [go_sem] c24 c22 c3 c2 a24 a22 a3 a2 k24 k22 k3 k2 fq0 fq4 fq5 sq22 z24 z3 z2 iq3 bq3 bq4 bq2

theorem i3 : (Tryz.prog.info? 3).isSome = true := by kernel_rfl
theorem i24 : (Tryz.prog.info? 33).isSome = true := by kernel_rfl
theorem i2 : (Tryz.prog.info? 2).isSome = true := by kernel_rfl
theorem ii24 : ∃ x, Tryz.prog.info? 33 = some x := Option.isSome_iff_exists.1 i24

theorem c9 : Tryz.prog.cellsOf 9 = 1 := by kernel_rfl
theorem u2 : Tryz.prog.underlying 2 = some (.int .i64) := by kernel_rfl
theorem u3 : Tryz.prog.underlying 3 = some (.int .i64) := by kernel_rfl
theorem u9 : Tryz.prog.underlying 9 = some .string := by kernel_rfl
theorem u22 : Tryz.prog.underlying 31 = some (.slice 33) := by kernel_rfl

/-- an expression -/
inductive X where
  | mk (k : Int) (nm : List UInt8) (n lo hi : Int) (tok : Bool) (kids : List X)
def tokOf : Bool → Tok
  | true => .clip
  | false => .non
mutual
def X.emb : X → AV
  | .mk k nm n lo hi tok kids => .agg [.int .i64 k, .str nm, .int .i64 n, .int .i64 lo, .int .i64 hi, .slice (embL kids) (tokOf tok)]
def embL : List X → List AV
  | [] => []
  | x :: l => x.emb :: embL l
end
mutual
def X.size : X → Nat
  | .mk _ _ _ _ _ _ kids => 1 + sizeL kids
def sizeL : List X → Nat
  | [] => 0
  | x :: l => x.size + sizeL l
end
theorem embL_map : ∀ l : List X, embL l = l.map X.emb
  | [] => rfl
  | x :: l => by simp [embL, embL_map l]
theorem size_pos (x : X) : 1 ≤ x.size := by
  cases x; simp [X.size]
theorem sizeL_mem {x : X} : ∀ {l : List X}, x ∈ l → x.size ≤ sizeL l
  | y :: l, h => by
    rcases List.mem_cons.1 h with rfl | h
    · simp [sizeL]
    · have := sizeL_mem h; simp [sizeL]; omega
theorem sizeL_length : ∀ l : List X, l.length ≤ sizeL l
  | [] => by simp [sizeL]
  | x :: l => by have := sizeL_length l; have := size_pos x; simp [sizeL]; omega
mutual
theorem sealed_emb : ∀ x : X, x.emb.sealed = true
  | .mk _ _ _ _ _ _ kids => by simp [X.emb, AV.sealed, AV.sealedL, sealed_embL kids]
theorem sealed_embL : ∀ l : List X, AV.sealedL (embL l) = true
  | [] => rfl
  | x :: l => by simp [embL, AV.sealedL, sealed_emb x, sealed_embL l]
end

theorem wrap64 (n : Int) (h : -9223372036854775808 ≤ n ∧ n < 9223372036854775808) : IntKind.i64.wrap n = n := by
  simp [IntKind.wrap, IntKind.bits, IntKind.signed]; omega
theorem sizeL_append : ∀ a b : List X, sizeL (a ++ b) = sizeL a + sizeL b
  | [], b => by simp [sizeL]
  | x :: a, b => by simp [sizeL, sizeL_append a b]; omega
theorem fin0 {S S' : St} (h1 : S'.H.length = S.H.length) (h2 : S'.T = S.T) : finish S (.tup []) S' = some (.tup [], S') :=
  finish_same rfl rfl rfl h1 h2
theorem fin_int (k : IntKind) (n : Int) (S : St) : finish S (.int k n) S = some (.int k n, S) := finish_same rfl rfl rfl rfl rfl
theorem fin_str (s : List UInt8) (S : St) : finish S (.str s) S = some (.str s, S) := finish_same rfl rfl rfl rfl rfl
theorem fin_bool (S : St) (b : Bool) : finish S (.bool b) S = some (.bool b, S) := finish_same rfl rfl rfl rfl rfl
attribute [simp] fin_int fin_bool fin_str

def in64 (n : Int) : Prop := -9223372036854775808 ≤ n ∧ n ≤ 9223372036854775807
mutual
/-- its numbers are numbers of 64 bits; nothing of it is to be appended to -/
def X.fit : X → Prop
  | .mk k _ n lo hi tok kids => in64 k ∧ in64 n ∧ in64 lo ∧ in64 hi ∧ tok = false ∧ fitL kids
def fitL : List X → Prop
  | [] => True
  | x :: l => x.fit ∧ fitL l
end
mutual
/-- how much of it there is, at the least, to a reader -/
def X.bulk : X → Nat
  | .mk _ nm _ _ _ _ kids => 7 + nm.length + bulkL kids
def bulkL : List X → Nat
  | [] => 0
  | x :: l => x.bulk + bulkL l
end
mutual
theorem size_bulk : ∀ x : X, x.size ≤ x.bulk
  | .mk _ nm _ _ _ _ kids => by have := size_bulkL kids; simp only [X.size, X.bulk]; omega
theorem size_bulkL : ∀ l : List X, sizeL l ≤ bulkL l
  | [] => by simp [sizeL]
  | x :: l => by have := size_bulk x; have := size_bulkL l; simp only [sizeL, bulkL]; omega
end

def X.cells : X → List AV
  | .mk k nm n lo hi tok kids => [.int .i64 k, .str nm, .int .i64 n, .int .i64 lo, .int .i64 hi, .slice (embL kids) (tokOf tok)]
theorem emb_cells (x : X) : x.emb = .agg x.cells := by cases x; rfl
theorem cells_ok (x : X) : x.emb.cells? = some x.cells ∧ x.cells.length = 6 := by
  cases x; exact ⟨by simp [X.emb, X.cells, AV.cells?, AV.isCell], rfl⟩

theorem bulkL_le {H : Type} : ∀ (xs : List X) (ys : List (DataW H × List MemPlace)), ys.length = xs.length → (∀ (i : Nat) (x : X), xs[i]? = some x → ∃ y, ys[i]? = some y ∧ x.bulk ≤ Rows.uptoBulk y.1 ∧ x.fit) →
    bulkL xs ≤ Rows.uptoBulkAll (ys.map (·.1)) ∧ fitL xs
  | [], _, _, _ => by simp [bulkL, fitL]
  | x :: xs, [], h, _ => by simp at h
  | x :: xs, y :: ys, h, hq => by
    have h1 := bulkL_le xs ys (by simpa using h) fun i x' hx => by simpa using hq (i + 1) x' (by simpa using hx)
    obtain ⟨y', e, h2, h3⟩ := hq 0 x rfl
    simp at e
    subst e
    simp only [bulkL, fitL, List.map_cons, Rows.uptoBulkAll]
    exact ⟨by omega, h3, h1.2⟩

theorem wf64 {n : Int} (h : (Lit.int .i64 n).wf = true) : in64 n := by
  simp [Lit.wf, IntKind.min, IntKind.max, IntKind.signed, IntKind.bits] at h
  unfold in64
  omega

/-- AN EXPRESSION READ: it is one; its bulk is what the reader says, at the most. -/
theorem read_expr {H : Type} {enc : TypeId × Value → H} {W : World} {held : Bool} : ∀ (fuel : Nat) (cs : List Value) (x : DataW H × List MemPlace), DataW.trod enc Tryz.prog W 0 (fun _ => true) held fuel 33 cs = some x →
    ∃ e : X, VRL (gh0 W) e.cells cs ∧ e.bulk ≤ Rows.uptoBulk x.1 ∧ e.fit := by
  intro fuel
  induction fuel using Nat.strongRecOn with
  | _ fuel ih =>
  intro cs x h
  obtain ⟨xs, n, hf, rfl, hl, hxl, hfs⟩ := DataW.trod_struct Tryz.underlying33 h
  rw [c24] at hl
  match cs, hl with
  | [v0, v1, v2, v3, v4, v5], _ =>
  match xs, hxl with
  | [x0, x1, x2, x3, x4, x5], _ =>
  have g0 : DataW.trod enc Tryz.prog W 0 (fun _ => true) held n 3 [v0] = some x0 := by simpa [c3] using hfs 0 _ rfl
  have g1 : DataW.trod enc Tryz.prog W 0 (fun _ => true) held n 9 [v1] = some x1 := by simpa [c9] using hfs 1 _ rfl
  have g2 : DataW.trod enc Tryz.prog W 0 (fun _ => true) held n 2 [v2] = some x2 := by simpa [c2] using hfs 2 _ rfl
  have g3 : DataW.trod enc Tryz.prog W 0 (fun _ => true) held n 2 [v3] = some x3 := by simpa [c2] using hfs 3 _ rfl
  have g4 : DataW.trod enc Tryz.prog W 0 (fun _ => true) held n 2 [v4] = some x4 := by simpa [c2] using hfs 4 _ rfl
  have g5 : DataW.trod enc Tryz.prog W 0 (fun _ => true) held n 31 [v5] = some x5 := by simpa [c22] using hfs 5 _ rfl
  clear hfs h
  obtain ⟨k, e0, rfl, w0⟩ := DataW.trod_int u3 g0
  obtain ⟨nm, e1, rfl, w1⟩ := DataW.trod_string u9 g1
  obtain ⟨a, e2, rfl, w2⟩ := DataW.trod_int u2 g2
  obtain ⟨lo, e3, rfl, w3⟩ := DataW.trod_int u2 g3
  obtain ⟨hi, e4, rfl, w4⟩ := DataW.trod_int u2 g4
  cases e0; cases e1; cases e2; cases e3; cases e4
  obtain ⟨kids, hk, hq⟩ := slice_open (α := X) (emb := X.emb) (cl := X.cells) (Q := fun x y => x.bulk ≤ Rows.uptoBulk y.1 ∧ x.fit) (sz := 6) (by omega) u22 c24 cells_ok g5 fun n' cs y hn hy => ih n' (by omega) cs y hy
  rw [← embL_map] at hk
  cases hk with
  | cons _ _ _ _ hk _ =>
  have hb : bulkL kids + 1 ≤ Rows.uptoBulk x5.1 ∧ fitL kids := by
    rcases hq with ⟨rfl, hx⟩ | ⟨ys, rest, hx, hl, hq⟩
    · rw [hx]; simp [bulkL, Rows.uptoBulk, fitL]
    · have := bulkL_le kids ys hl hq
      rw [hx]
      simp only [Rows.uptoBulk]
      exact ⟨by omega, this.2⟩
  refine ⟨.mk k nm.data.toList a lo hi false kids, ?_, ?_, ?_⟩
  · exact .cons _ _ _ _ (.int _ _) (.cons _ _ _ _ (.str _) (.cons _ _ _ _ (.int _ _) (.cons _ _ _ _ (.int _ _) (.cons _ _ _ _ (.int _ _) (.cons _ _ _ _ hk .nil)))))
  · simp only [X.bulk, List.map_cons, List.map_nil, Rows.uptoBulk, Rows.uptoBulkAll]
    omega
  · exact ⟨wf64 w0, wf64 w2, wf64 w3, wf64 w4, rfl, hb.2⟩

/-- an argument of an expression's type -/
theorem open_expr {H : Type} {enc : TypeId × Value → H} {W : World} {base : Nat} {held : Bool} {v : Value} {d : DataW H} {ps : List MemPlace} (hval : Value.okWide Tryz.prog W .any base 33 v) (h : DataW.Trod enc Tryz.prog W 0 (fun _ => true) held 33 v d ps) :
    ∃ e : X, VR (gh0 W) e.emb v ∧ e.bulk ≤ Rows.uptoBulk d ∧ e.fit := by
  simp only [Value.okWide, Tryz.underlying33] at hval
  obtain ⟨cs, rfl, _, _⟩ := hval
  obtain ⟨fuel, h⟩ := h
  obtain ⟨e, h1, h2, h3⟩ := read_expr fuel _ _ h
  exact ⟨e, by rw [emb_cells]; exact .agg _ _ h1, h2, h3⟩
end Go.Proofs.YtcpoinfdnimanaaGreatDoor.EX
/-
  DERIVED: THE SHELF's CONTRACTS AT THIS DUMP, IN PLAIN WORDS (tools/lay-plain.mjs out of 'YtcpoinfdnimanaaGreatDoorShelf.lean', which tools/lay-shelf.mjs wrote): THE SAME DECLARATIONS UNDER THE SAME NAMES: 'import', 'namespace', 'open', 'def', 'theorem' AND NOTHING ELSE: no command of the shelf's: FOR A HAND-IN. Each laying: the table of numbers ('.._ren') and one theorem, a field a fact of the dump's own or the kernel's comparison; each contract: ONE APPLICATION.
-/
namespace Go.Proofs.YtcpoinfdnimanaaGreatDoor
open Go.Shelf
def SH.lays137_ren : Go.Shelf.Ren := ⟨fun | 137 => 114 | 217 => 136 | 266 => 157 | n => n, fun | 9 => 9 | 5 => 5 | 3 => 3 | n => n, fun | n => n⟩
theorem SH.lays137 : Go.Proofs.Lays.n137 Tryz.prog SH.lays137_ren := {
  mixed := by kernel_rfl
  f137 := Tryz.func114.trans (congrArg some (by kernel_rfl))
  f217 := Tryz.func136.trans (congrArg some (by kernel_rfl))
  f266 := Tryz.func157.trans (congrArg some (by kernel_rfl))
  t3 := Tryz.underlying3
  a3 := Tryz.isAgg3
  z3 := Tryz.sizeOf3
  v3 := Tryz.zeroValue3
  t5 := Tryz.underlying5
  a5 := Tryz.isAgg5
  z5 := Tryz.sizeOf5
  v5 := Tryz.zeroValue5
  t9 := Tryz.underlying9
  a9 := Tryz.isAgg9
  z9 := Tryz.sizeOf9
  v9 := Tryz.zeroValue9 }
open Go.RowKit in
/-- strings.IndexByte: "IndexByte returns the index of the first instance of c in s, or -1 if c is not present in s.": IT RETURNS 'Lib.indexByte s c'; the world is as it was. (LAID: no walk: one application.) -/
theorem SH.strings_IndexByte (s : ByteArray) (c : Int) (w : World) :
    Calls Tryz.prog 114 #[.string s, .int .u8 c] w fun e w' => e = .returned (.int .i64 (Lib.indexByte s.data.toList c.toNat.toUInt8)) ∧ w' = w := Any.strings_IndexByte SH.lays137 s c w
def SH.lays217_ren : Go.Shelf.Ren := ⟨fun | 217 => 136 | 266 => 157 | n => n, fun | 9 => 9 | 5 => 5 | 3 => 3 | n => n, fun | n => n⟩
theorem SH.lays217 : Go.Proofs.Lays.n217 Tryz.prog SH.lays217_ren := {
  mixed := by kernel_rfl
  f217 := Tryz.func136.trans (congrArg some (by kernel_rfl))
  f266 := Tryz.func157.trans (congrArg some (by kernel_rfl))
  t3 := Tryz.underlying3
  a3 := Tryz.isAgg3
  z3 := Tryz.sizeOf3
  v3 := Tryz.zeroValue3
  t5 := Tryz.underlying5
  a5 := Tryz.isAgg5
  z5 := Tryz.sizeOf5
  v5 := Tryz.zeroValue5
  t9 := Tryz.underlying9
  a9 := Tryz.isAgg9
  z9 := Tryz.sizeOf9
  v9 := Tryz.zeroValue9 }
open Go.RowKit Go.Lib in
/-- internal/stringslite.IndexByte (what strings.IndexByte calls): IT RETURNS 'Lib.indexByte s c'; the world is as it was. (LAID: no walk: one application.) -/
theorem SH.stringslite_IndexByte (s : ByteArray) (c : Int) (w : World) :
    Calls Tryz.prog 136 #[.string s, .int .u8 c] w fun e w' => e = .returned (.int .i64 (Lib.indexByte s.data.toList c.toNat.toUInt8)) ∧ w' = w := Any.stringslite_IndexByte SH.lays217 s c w
def SH.lays264_ren : Go.Shelf.Ren := ⟨fun | 264 => 168 | n => n, fun | 53 => 167 | 46 => 218 | n => n, fun | n => n⟩
theorem SH.lays264 : Go.Proofs.Lays.n264 Tryz.prog SH.lays264_ren := {
  mixed := by kernel_rfl
  f264 := Tryz.func168.trans (congrArg some (by kernel_rfl))
  t46 := Tryz.underlying218
  a46 := Tryz.isAgg218
  z46 := Tryz.sizeOf218
  v46 := Tryz.zeroValue218
  t53 := Tryz.underlying167
  a53 := Tryz.isAgg167
  z53 := Tryz.sizeOf167
  v53 := Tryz.zeroValue167 }
open Go.RowKit Go.Lib in
theorem SH.bits_Mul64 (x y : Nat) (hx : x < 18446744073709551616) (hy : y < 18446744073709551616) (w : World) :
    Calls Tryz.prog 168 #[.int .u64 x, .int .u64 y] w fun e w' => e = .returned (.tuple #[.int .u64 ((x * y / 18446744073709551616 : Nat) : Int), .int .u64 ((x * y % 18446744073709551616 : Nat) : Int)]) ∧ w' = w := Any.bits_Mul64 SH.lays264 x y hx hy w
end Go.Proofs.YtcpoinfdnimanaaGreatDoor
/- strings.IndexByte and bits.Mul64 by their contracts: as the evaluator takes them. No condition. -/
namespace Go.Proofs.YtcpoinfdnimanaaGreatDoor.AE
set_option linter.unusedVariables false
set_option linter.unusedSimpArgs false
open Go Go.RowKit

def indexX (args : List AV) (S : St) : Option (Res × St) :=
  match args with
  | [.str s, .int .u8 c] => some (.ret (.int .i64 (Lib.indexByte s c.toNat.toUInt8)), S)
  | _ => none
def mulX (args : List AV) (S : St) : Option (Res × St) :=
  match args with
  | [.int .u64 x, .int .u64 y] => if 0 ≤ x ∧ x < 18446744073709551616 ∧ 0 ≤ y ∧ y < 18446744073709551616 then
      some (.ret (.tup [.int .u64 ((x.toNat * y.toNat / 18446744073709551616 : Nat) : Int), .int .u64 ((x.toNat * y.toNat % 18446744073709551616 : Nat) : Int)]), S) else none
  | _ => none

theorem indexX_ok {args : List AV} {S S' : St} {r : Res} (h : indexX args S = some (r, S')) :
    (∃ fn, Tryz.prog.funcs[114]? = some fn ∧ (fn.name == "runtime.NumGoroutine") = false ∧ fn.body.isSome = true) ∧
    ∀ (w0 : World) (B : Nat) (G : Gh) (w : World) (vs : Array Value), Inv w0 B G S w → VRL G args vs.toList →
      Calls Tryz.prog 114 vs w fun e w' => ∃ G', Inv w0 B G' S' w' ∧ Ext G w G' w' ∧ G'.nu = G.nu ∧ ResR G' r e := by
  refine ⟨⟨_, Tryz.func114, by decide +kernel, by decide +kernel⟩, fun w0 B G w vs hi hv => ?_⟩
  unfold indexX at h
  split at h
  · rename_i s c
    cases h
    obtain ⟨a⟩ := vs
    simp only at hv
    cases hv with
    | cons _ v0 _ m h0 hm =>
      cases hm with
      | cons _ v1 _ m h1 hm =>
        cases hm
        obtain ⟨p, rfl, rfl⟩ := h0.inv_str
        cases h1
        refine (SH.strings_IndexByte p c w).mono fun e w' ⟨he, hw⟩ => ?_
        subst he; subst hw
        exact ⟨G, hi, .refl G _, rfl, VR.int _ _⟩
  · cases h

theorem mulX_ok {args : List AV} {S S' : St} {r : Res} (h : mulX args S = some (r, S')) :
    (∃ fn, Tryz.prog.funcs[168]? = some fn ∧ (fn.name == "runtime.NumGoroutine") = false ∧ fn.body.isSome = true) ∧
    ∀ (w0 : World) (B : Nat) (G : Gh) (w : World) (vs : Array Value), Inv w0 B G S w → VRL G args vs.toList →
      Calls Tryz.prog 168 vs w fun e w' => ∃ G', Inv w0 B G' S' w' ∧ Ext G w G' w' ∧ G'.nu = G.nu ∧ ResR G' r e := by
  refine ⟨⟨_, Tryz.func168, by decide +kernel, by decide +kernel⟩, fun w0 B G w vs hi hv => ?_⟩
  unfold mulX at h
  split at h
  · rename_i x y
    split at h
    · rename_i hc
      obtain ⟨c1, c2, c3, c4⟩ := hc
      cases h
      obtain ⟨a⟩ := vs
      simp only at hv
      cases hv with
      | cons _ v0 _ m h0 hm =>
        cases hm with
        | cons _ v1 _ m h1 hm =>
          cases hm
          cases h0
          cases h1
          obtain ⟨u, rfl⟩ : ∃ u : Nat, x = u := ⟨x.toNat, by omega⟩
          obtain ⟨v, rfl⟩ : ∃ v : Nat, y = v := ⟨y.toNat, by omega⟩
          refine (SH.bits_Mul64 u v (by omega) (by omega) w).mono fun e w' ⟨he, hw⟩ => ?_
          subst he; subst hw
          exact ⟨G, hi, .refl G _, rfl, VR.tup _ _ (by simpa using VRL.cons _ _ _ _ (VR.int _ _) (.cons _ _ _ _ (VR.int _ _) .nil))⟩
    · cases h
  · cases h
end Go.Proofs.YtcpoinfdnimanaaGreatDoor.AE
/-
  DERIVED: THE SHELF's CONTRACTS AT THIS DUMP, IN PLAIN WORDS (tools/lay-plain.mjs out of 'YtcpoinfdnimanaaGreatDoorShelf.lean', which tools/lay-shelf.mjs wrote): THE SAME DECLARATIONS UNDER THE SAME NAMES: 'import', 'namespace', 'open', 'def', 'theorem' AND NOTHING ELSE: no command of the shelf's: FOR A HAND-IN. Each laying: the table of numbers ('.._ren') and one theorem, a field a fact of the dump's own or the kernel's comparison; each contract: ONE APPLICATION.
-/
namespace Go.Proofs.YtcpoinfdnimanaaGreatDoor
open Go.Shelf
def SH.lays156_ren : Go.Shelf.Ren := ⟨fun | 156 => 81 | 165 => 110 | 166 => 44 | 169 => 49 | 240 => 80 | 241 => 135 | 276 => 109 | 277 => 156 | n => n, fun | 31 => 78 | 9 => 9 | 3 => 3 | 4 => 4 | 0 => 0 | 20 => 20 | 72 => 75 | 76 => 80 | 70 => 72 | 37 => 73 | 75 => 46 | 127 => 131 | 164 => 144 | 5 => 5 | 80 => 86 | n => n, fun | n => n⟩
theorem SH.lays156 : Go.Proofs.Lays.n156 Tryz.prog SH.lays156_ren := {
  mixed := by kernel_rfl
  f156 := Tryz.func81.trans (congrArg some (by kernel_rfl))
  f165 := Tryz.func110.trans (congrArg some (by kernel_rfl))
  f166 := Tryz.func44.trans (congrArg some (by kernel_rfl))
  f169 := Tryz.func49.trans (congrArg some (by kernel_rfl))
  f240 := Tryz.func80.trans (congrArg some (by kernel_rfl))
  f241 := Tryz.func135.trans (congrArg some (by kernel_rfl))
  f276 := Tryz.func109.trans (congrArg some (by kernel_rfl))
  f277 := Tryz.func156.trans (congrArg some (by kernel_rfl))
  t0 := Tryz.underlying0
  a0 := Tryz.isAgg0
  z0 := Tryz.sizeOf0
  v0 := Tryz.zeroValue0
  t3 := Tryz.underlying3
  a3 := Tryz.isAgg3
  z3 := Tryz.sizeOf3
  v3 := Tryz.zeroValue3
  t4 := Tryz.underlying4
  a4 := Tryz.isAgg4
  z4 := Tryz.sizeOf4
  v4 := Tryz.zeroValue4
  t9 := Tryz.underlying9
  a9 := Tryz.isAgg9
  z9 := Tryz.sizeOf9
  v9 := Tryz.zeroValue9
  t20 := Tryz.underlying20
  a20 := Tryz.isAgg20
  z20 := Tryz.sizeOf20
  v20 := Tryz.zeroValue20
  t31 := Tryz.underlying78
  a31 := Tryz.isAgg78
  z31 := Tryz.sizeOf78
  v31 := Tryz.zeroValue78
  t37 := Tryz.underlying73
  a37 := Tryz.isAgg73
  z37 := Tryz.sizeOf73
  v37 := Tryz.zeroValue73
  t70 := Tryz.underlying72
  a70 := Tryz.isAgg72
  z70 := Tryz.sizeOf72
  v70 := Tryz.zeroValue72
  t72 := Tryz.underlying75
  a72 := Tryz.isAgg75
  z72 := Tryz.sizeOf75
  v72 := Tryz.zeroValue75
  t75 := Tryz.underlying46
  a75 := Tryz.isAgg46
  z75 := Tryz.sizeOf46
  v75 := Tryz.zeroValue46
  t76 := Tryz.underlying80
  a76 := Tryz.isAgg80
  z76 := Tryz.sizeOf80
  v76 := Tryz.zeroValue80
  t127 := Tryz.underlying131
  a127 := Tryz.isAgg131
  z127 := Tryz.sizeOf131
  v127 := Tryz.zeroValue131
  t164 := Tryz.underlying144
  a164 := Tryz.isAgg144
  z164 := Tryz.sizeOf144
  v164 := Tryz.zeroValue144 }
theorem SH.Builder_Extra_156 : Builder.Extra Tryz.prog SH.lays156_ren := {
  sizeBuilder := by kernel_rfl
  liesBuilder := by kernel_rfl
  t5 := Tryz.underlying5
  a5 := Tryz.isAgg5
  z5 := Tryz.sizeOf5
  v5 := Tryz.zeroValue5
  infoByte := by kernel_rfl
  cellsByte := by kernel_rfl
  sizeByte := by kernel_rfl
  neB5 := by decide }
open Go.RowKit in
/-- No element: the empty string; the world is as it was. (Whatever the slice's address and capacity: a nil slice too.) (LAID: no walk: one application.) -/
theorem SH.strings_Join_none (a : Option Addr) (c : Nat) (sep : ByteArray) (w : World) :
    Calls Tryz.prog 81 #[.slice a 0 c, .string sep] w fun e w' => e = .returned (.string ⟨#[]⟩) ∧ w' = w := Any.strings_Join_none SH.lays156 SH.Builder_Extra_156 a c sep w
open Go.RowKit in
/-- strings.Join: "Join concatenates the elements of its first argument to create a single string. The separator string sep is placed between elements in the resulting string.": HOWEVER MANY ELEMENTS. Below the heap's end the world is as it was. (LAID: no walk: one application.) -/
theorem SH.strings_Join (bk o c : Nat) (xs : List ByteArray) (sep : ByteArray) (w : World) (hcells : ∀ (j : Nat) x, xs[j]? = some x → w.cell? ⟨bk, o + j, none⟩ = some (.string x)) (hbk : bk < w.heap.size) (hN : xs.length ≤ 140737488355328) (hcap : xs.length ≤ c) (hlen : (Lib.join (xs.map (·.data.toList)) sep.data.toList).length ≤ 140737488355328) :
    Calls Tryz.prog 81 #[.slice (some ⟨bk, o, none⟩) xs.length c, .string sep] w fun e w' => e = .returned (.string ⟨(Lib.join (xs.map (·.data.toList)) sep.data.toList).toArray⟩) ∧ Below w.heap.size w w' := Any.strings_Join SH.lays156 SH.Builder_Extra_156 bk o c xs sep w hcells hbk hN hcap hlen
end Go.Proofs.YtcpoinfdnimanaaGreatDoor
/- strings.Join and strings.IndexByte by their contracts: as the evaluator takes them. No condition. -/
namespace Go.Proofs.YtcpoinfdnimanaaGreatDoor.AE
set_option linter.unusedVariables false
set_option linter.unusedSimpArgs false
open Go Go.RowKit

def joinX (args : List AV) (S : St) : Option (Res × St) :=
  match args with
  | [.slice es _, .str sep] => match strsOf es with
    | some l => if l.length ≤ 140737488355328 ∧ (Lib.join l sep).length ≤ 140737488355328 then some (.ret (.str (Lib.join l sep)), S) else none
    | none => none
  | _ => none
theorem joinX_ok {args : List AV} {S S' : St} {r : Res} (h : joinX args S = some (r, S')) :
    (∃ fn, Tryz.prog.funcs[81]? = some fn ∧ (fn.name == "runtime.NumGoroutine") = false ∧ fn.body.isSome = true) ∧
    ∀ (w0 : World) (B : Nat) (G : Gh) (w : World) (vs : Array Value), Inv w0 B G S w → VRL G args vs.toList →
      Calls Tryz.prog 81 vs w fun e w' => ∃ G', Inv w0 B G' S' w' ∧ Ext G w G' w' ∧ G'.nu = G.nu ∧ ResR G' r e := by
  refine ⟨⟨_, Tryz.func81, by decide +kernel, by decide +kernel⟩, fun w0 B G w vs hi hv => ?_⟩
  unfold joinX at h
  split at h
  · rename_i es tok sep
    split at h
    · rename_i l hl
      split at h
      · rename_i hc
        cases h
        obtain ⟨c1, c2⟩ := hc
        have hes := strsOf_inv hl
        subst hes
        obtain ⟨a⟩ := vs
        simp only at hv
        cases hv with
        | cons _ v0 _ m h0 hm =>
          cases hm with
          | cons _ v1 _ m h1 hm =>
            cases hm
            obtain ⟨p, rfl, rfl⟩ := h1.inv_str
            have fin : ∀ (xs : List ByteArray) (w' : World), xs.map (·.data.toList) = l → Below w.heap.size w w' → ∀ q : ByteArray, q.data.toList = Lib.join l p.data.toList →
                ∃ G', Inv w0 B G' S w' ∧ Ext G w G' w' ∧ G'.nu = G.nu ∧ ResR G' (.ret (.str (Lib.join l p.data.toList))) (.returned (.string q)) := fun xs w' hx hb q hq => by
              obtain ⟨i1, i2⟩ := hi.grow hb
              exact ⟨G, i1, i2, rfl, by rw [← hq]; exact VR.str q⟩
            generalize hes : List.map AV.str l = es at *
            cases h0 with
            | nils _ ad _ =>
              have : l = [] := by cases l <;> simp_all
              subst this
              refine (SH.strings_Join_none ad 0 p w).mono fun e w' ⟨he, hw⟩ => ?_
              subst he; subst hw
              exact fin [] _ rfl (Below.refl _ _) _ rfl
            | slice _ _ fl b o cap sz k1 k2 k3 k4 k5 =>
              subst hes
              rw [flatQ_strs] at k2
              cases k2
              obtain ⟨us, v1, v2⟩ := k3.vals
              obtain ⟨xs, rfl, rfl⟩ := VRL_strs v1
              have hlen : (List.map AV.str (xs.map (·.data.toList))).length = xs.length := by simp
              rw [hlen] at k1 ⊢
              cases xs with
              | nil =>
                refine (SH.strings_Join_none (some ⟨b, o, none⟩) cap p w).mono fun e w' ⟨he, hw⟩ => ?_
                subst he; subst hw
                exact fin [] _ rfl (Below.refl _ _) _ rfl
              | cons x xs =>
                have hcells : ∀ (j : Nat) y, (x :: xs)[j]? = some y → w.cell? ⟨b, o + j, none⟩ = some (.string y) := fun j y hj =>
                  hi.imm _ _ _ (v2 j (.string y) (by rw [List.getElem?_map, hj]; rfl))
                refine (SH.strings_Join b o cap (x :: xs) p w hcells (World.block_lt_of_cell? w _ (hcells 0 x rfl)) (by simpa using c1) k1 c2).mono fun e w' ⟨he, hw⟩ => ?_
                subst he
                exact fin (x :: xs) _ rfl hw _ (by simp)
      · cases h
    · cases h
  · cases h

end Go.Proofs.YtcpoinfdnimanaaGreatDoor.AE
/- The environment: which functions are followed; their types' facts. No condition. -/
namespace Go.Proofs.YtcpoinfdnimanaaGreatDoor.PT
set_option linter.unusedVariables false
set_option linter.unusedSimpArgs false
open Go AE EX
set_option maxRecDepth 100000

/-- errors.As at the two targets that fault.Code and fault.Place hand it, by contract -/
def asX (args : List AV) (S : St) : Option (Res × St) :=
  match args with
  | [.nilif, _] => some (.ret (.bool false), S)
  | [.iface 103 (.ptr id 0), .iface 102 (.ptr d 0)] => match S.H[id]?, S.H[d]? with
    | some ⟨106, [.int .i64 c, _, _]⟩, some ⟨27, [_]⟩ => some (.ret (.bool true), { S with H := S.H.set d ⟨27, [.int .i64 c]⟩ })
    | _, _ => none
  | [.iface 103 (.ptr id 0), .iface 104 (.ptr d 0)] => match S.H[d]? with
    | some ⟨103, [_]⟩ => some (.ret (.bool true), { S with H := S.H.set d ⟨103, [.ptr id 0]⟩ })
    | _ => none
  | _ => none

/-- the functions that are followed -/
def okL : List Nat := [3, 4, 5, 6, 7, 8, 9, 10, 11, 12, 13, 14, 15, 16, 17, 18, 19, 20, 21, 22, 23, 24, 25, 26, 27, 28, 29, 30, 31, 32, 33, 34, 35, 36, 37, 38, 39, 40, 41, 42, 43, 45, 46, 47, 48, 50, 51, 52, 53, 54, 55, 56, 57, 59, 60, 61, 62, 63, 64, 65, 66, 67, 68, 69, 70, 71, 72, 73, 74, 75, 76, 77, 78, 79, 82, 83, 84, 85, 86, 87, 88, 89, 90, 91, 92, 93, 94, 95, 96, 97, 102, 103, 104, 105, 106, 107, 108, 111, 112, 113, 115, 116, 117, 118, 119, 120, 121, 122, 123, 124, 125, 129, 130, 131, 132, 133, 134, 137, 138, 139, 140, 141, 142, 143, 144, 145, 146, 147, 148, 149, 150, 151, 152, 153, 154, 155, 158, 159, 160, 161, 162, 163, 164, 165, 166, 167, 169, 170, 171, 172, 173, 174, 175, 176, 177, 178, 179, 180, 181, 182, 183, 184, 185, 186, 187, 188, 189, 190, 191, 192]
@[simp] def isEsc (f : Nat) : Bool := f == 20 || f == 21 || f == 22 || f == 25 || f == 40 || f == 54 || f == 57 || f == 59 || f == 96 || f == 105 || f == 141 || f == 179
noncomputable def E : Env where
  ok := fun f => okL.contains f
  esc := fun f d => (f == 20 && (d == 2 || d == 3 || d == 18)) || (f == 21 && d == 3) || (f == 22 && d == 3) || (f == 25 && d == 3) || (f == 40 && d == 3) || (f == 54 && d == 12) || (f == 57 && d == 8) || (f == 59 && d == 3) || (f == 96 && (d == 5 || d == 6)) || (f == 105 && d == 3) || (f == 141 && (d == 2 || d == 3 || d == 4 || d == 8)) || (f == 179 && d == 1)
  ps := fun f id => if f = 3 ∧ id = 1 then [(2, 4), (3, 4)] else if f = 4 ∧ id = 5 then [(4, 5), (9, 10), (9, 12), (10, 12), (11, 12), (9, 13), (10, 13), (11, 13), (12, 13), (18, 19), (23, 25), (24, 25)] else if f = 5 ∧ id = 1 then [(6, 8), (7, 8)] else if f = 9 ∧ id = 11 then [(1, 5), (1, 10), (5, 10), (6, 10)] else if f = 10 ∧ id = 11 then [(1, 5), (1, 9), (1, 14), (5, 14), (9, 14), (10, 14)] else if f = 10 ∧ id = 14 then [(1, 3), (1, 6)] else if f = 11 ∧ id = 2 then [(1, 4), (2, 4)] else if f = 11 ∧ id = 3 then [(1, 4), (2, 4), (1, 7), (2, 7), (4, 7), (5, 7)] else if f = 15 ∧ id = 6 then [(1, 6), (4, 6), (1, 9), (4, 9)] else if f = 18 ∧ id = 7 then [(0, 2)] else if f = 19 ∧ id = 5 then [(3, 11), (7, 11), (3, 15), (7, 15), (3, 16), (7, 16)] else if f = 19 ∧ id = 10 then [(3, 7), (3, 8), (3, 12), (7, 12), (8, 12), (3, 13)] else if f = 19 ∧ id = 11 then [(2, 6), (3, 6), (2, 10), (3, 10), (6, 10), (7, 10)] else if f = 19 ∧ id = 19 then [(3, 7), (3, 8)] else if f = 20 ∧ id = 3 then [(1, 2)] else if f = 33 ∧ id = 6 then [(1, 6), (4, 6), (1, 9), (4, 9)] else if f = 34 ∧ id = 6 then [(4, 9), (16, 21), (29, 34)] else if f = 35 ∧ id = 6 then [(3, 7)] else if f = 36 ∧ id = 6 then [(3, 7)] else if f = 39 ∧ id = 6 then [(3, 7)] else if f = 46 ∧ id = 9 then [(1, 5), (2, 5)] else if f = 46 ∧ id = 11 then [(1, 4), (2, 4), (1, 6), (2, 6), (4, 6), (1, 11), (2, 11), (4, 11), (6, 11), (7, 11)] else if f = 46 ∧ id = 13 then [(1, 8), (3, 8), (4, 8), (1, 13), (3, 13), (4, 13), (8, 13), (9, 13), (1, 15), (3, 15), (4, 15), (8, 15), (9, 15)] else if f = 47 ∧ id = 6 then [(4, 7), (4, 8)] else if f = 48 ∧ id = 4 then [(2, 4), (2, 5)] else if f = 51 ∧ id = 10 then [(0, 4), (1, 4)] else if f = 51 ∧ id = 11 then [(1, 8), (3, 8), (4, 8), (1, 13), (3, 13), (4, 13), (8, 13), (9, 13), (1, 15), (3, 15), (4, 15), (8, 15), (9, 15)] else if f = 52 ∧ id = 8 then [(11, 18), (11, 19)] else if f = 55 ∧ id = 2 then [(2, 3)] else if f = 56 ∧ id = 3 then [(1, 3), (3, 3)] else if f = 56 ∧ id = 5 then [(1, 3), (3, 3)] else if f = 56 ∧ id = 6 then [(3, 7)] else if f = 76 ∧ id = 6 then [(3, 7)] else if f = 86 ∧ id = 15 then [(1, 5), (1, 6)] else if f = 89 ∧ id = 14 then [(1, 5), (1, 6)] else if f = 92 ∧ id = 1 then [(3, 7)] else if f = 93 ∧ id = 2 then [(4, 5)] else if f = 94 ∧ id = 1 then [(3, 7), (3, 10), (7, 10), (9, 10)] else if f = 95 ∧ id = 2 then [(3, 7), (3, 10), (7, 10), (9, 10)] else if f = 95 ∧ id = 3 then [(0, 2)] else if f = 96 ∧ id = 2 then [(4097, 4097), (1, 2), (1, 3), (2, 3), (1, 5), (2, 5), (3, 5)] else if f = 96 ∧ id = 12 then [(1, 3), (3, 3)] else if f = 96 ∧ id = 14 then [(1, 3), (3, 3)] else if f = 96 ∧ id = 16 then [(1, 3), (3, 3)] else if f = 96 ∧ id = 18 then [(1, 3), (3, 3)] else if f = 97 ∧ id = 0 then [(4, 8), (15, 15)] else if f = 115 ∧ id = 4 then [(4, 8)] else if f = 116 ∧ id = 2 then [(3, 7)] else if f = 116 ∧ id = 5 then [(4, 8)] else if f = 117 ∧ id = 1 then [(3, 7)] else if f = 117 ∧ id = 2 then [(6, 10), (6, 15), (10, 15)] else if f = 117 ∧ id = 4 then [(3, 7), (3, 12), (7, 12)] else if f = 118 ∧ id = 4 then [(3, 7)] else if f = 118 ∧ id = 8 then [(3, 7)] else if f = 118 ∧ id = 10 then [(4, 8), (4, 12), (8, 12), (4, 19), (8, 19), (12, 19)] else if f = 119 ∧ id = 1 then [(3, 7), (3, 10), (7, 10), (9, 10)] else if f = 122 ∧ id = 1 then [(3, 7), (3, 10), (7, 10), (9, 10)] else if f = 123 ∧ id = 1 then [(3, 7), (3, 14), (7, 14), (9, 14)] else if f = 125 ∧ id = 7 then [(3, 7), (3, 10), (7, 10), (9, 10)] else if f = 125 ∧ id = 11 then [(1, 3)] else if f = 130 ∧ id = 14 then [(1, 4), (1, 7), (4, 7)] else if f = 130 ∧ id = 15 then [(1, 4)] else if f = 141 ∧ id = 4 then [(0, 4), (4, 5)] else if f = 144 ∧ id = 3 then [(1, 4), (2, 4)] else if f = 153 ∧ id = 9 then [(4, 6), (4, 11)] else if f = 155 ∧ id = 7 then [(2, 5)] else if f = 162 ∧ id = 3 then [(0, 2), (2, 2)] else if f = 163 ∧ id = 1 then [(1, 4), (1, 7), (4, 7), (1, 10), (4, 10), (7, 10)] else if f = 164 ∧ id = 4 then [(13, 19)] else if f = 169 ∧ id = 3 then [(0, 2), (2, 2)] else if f = 170 ∧ id = 2 then [(1, 3)] else if f = 173 ∧ id = 3 then [(0, 2), (2, 2)] else if f = 173 ∧ id = 5 then [(0, 2), (2, 2)] else if f = 173 ∧ id = 7 then [(0, 2), (2, 2)] else if f = 173 ∧ id = 9 then [(0, 2), (2, 2)] else if f = 173 ∧ id = 11 then [(0, 2), (2, 2)] else if f = 174 ∧ id = 1 then [(3, 7)] else if f = 174 ∧ id = 2 then [(3, 7)] else if f = 174 ∧ id = 4 then [(3, 7)] else if f = 176 ∧ id = 4 then [(0, 2), (2, 2)] else if f = 176 ∧ id = 6 then [(0, 2), (2, 2)] else if f = 178 ∧ id = 3 then [(0, 2), (2, 2)] else if f = 183 ∧ id = 15 then [(4, 8), (14, 14)] else if f = 184 ∧ id = 6 then [(7, 9), (7, 14)] else if f = 190 ∧ id = 16 then [(0, 2), (2, 2)] else []
  ext := fun f args S => if f = 114 then indexX args S else if f = 168 then mulX args S else if f = 58 then asX args S else if f = 81 then joinX args S else none
  fork := fun f => f == 32
  dfr := fun f => f == 20 || f == 141 || f == 179

@[simp] theorem E_esc (f d : Nat) (h : isEsc f = false) : E.esc f d = false := by
  simp [isEsc] at h
  simp [E, h]
@[simp] def escB (f d : Nat) : Bool := (f == 20 && (d == 2 || d == 3 || d == 18)) || (f == 21 && d == 3) || (f == 22 && d == 3) || (f == 25 && d == 3) || (f == 40 && d == 3) || (f == 54 && d == 12) || (f == 57 && d == 8) || (f == 59 && d == 3) || (f == 96 && (d == 5 || d == 6)) || (f == 105 && d == 3) || (f == 141 && (d == 2 || d == 3 || d == 4 || d == 8)) || (f == 179 && d == 1)
@[simp] theorem E_escT (f d : Nat) (h : isEsc f = true) : E.esc f d = escB f d := rfl
@[simp] theorem ps3_1 : E.ps 3 1 = [(2, 4), (3, 4)] := rfl
@[simp] theorem ps4_5 : E.ps 4 5 = [(4, 5), (9, 10), (9, 12), (10, 12), (11, 12), (9, 13), (10, 13), (11, 13), (12, 13), (18, 19), (23, 25), (24, 25)] := rfl
@[simp] theorem ps5_1 : E.ps 5 1 = [(6, 8), (7, 8)] := rfl
@[simp] theorem ps9_11 : E.ps 9 11 = [(1, 5), (1, 10), (5, 10), (6, 10)] := rfl
@[simp] theorem ps10_11 : E.ps 10 11 = [(1, 5), (1, 9), (1, 14), (5, 14), (9, 14), (10, 14)] := rfl
@[simp] theorem ps10_14 : E.ps 10 14 = [(1, 3), (1, 6)] := rfl
@[simp] theorem ps11_2 : E.ps 11 2 = [(1, 4), (2, 4)] := rfl
@[simp] theorem ps11_3 : E.ps 11 3 = [(1, 4), (2, 4), (1, 7), (2, 7), (4, 7), (5, 7)] := rfl
@[simp] theorem ps15_6 : E.ps 15 6 = [(1, 6), (4, 6), (1, 9), (4, 9)] := rfl
@[simp] theorem ps18_7 : E.ps 18 7 = [(0, 2)] := rfl
@[simp] theorem ps18_8 : E.ps 18 8 = [] := rfl
@[simp] theorem ps18_13 : E.ps 18 13 = [] := rfl
@[simp] theorem ps19_5 : E.ps 19 5 = [(3, 11), (7, 11), (3, 15), (7, 15), (3, 16), (7, 16)] := rfl
@[simp] theorem ps19_10 : E.ps 19 10 = [(3, 7), (3, 8), (3, 12), (7, 12), (8, 12), (3, 13)] := rfl
@[simp] theorem ps19_11 : E.ps 19 11 = [(2, 6), (3, 6), (2, 10), (3, 10), (6, 10), (7, 10)] := rfl
@[simp] theorem ps19_19 : E.ps 19 19 = [(3, 7), (3, 8)] := rfl
@[simp] theorem ps20_3 : E.ps 20 3 = [(1, 2)] := rfl
@[simp] theorem ps23_10 : E.ps 23 10 = [] := rfl
@[simp] theorem ps27_10 : E.ps 27 10 = [] := rfl
@[simp] theorem ps33_6 : E.ps 33 6 = [(1, 6), (4, 6), (1, 9), (4, 9)] := rfl
@[simp] theorem ps34_6 : E.ps 34 6 = [(4, 9), (16, 21), (29, 34)] := rfl
@[simp] theorem ps35_6 : E.ps 35 6 = [(3, 7)] := rfl
@[simp] theorem ps36_6 : E.ps 36 6 = [(3, 7)] := rfl
@[simp] theorem ps39_6 : E.ps 39 6 = [(3, 7)] := rfl
@[simp] theorem ps45_0 : E.ps 45 0 = [] := rfl
@[simp] theorem ps46_9 : E.ps 46 9 = [(1, 5), (2, 5)] := rfl
@[simp] theorem ps46_11 : E.ps 46 11 = [(1, 4), (2, 4), (1, 6), (2, 6), (4, 6), (1, 11), (2, 11), (4, 11), (6, 11), (7, 11)] := rfl
@[simp] theorem ps46_13 : E.ps 46 13 = [(1, 8), (3, 8), (4, 8), (1, 13), (3, 13), (4, 13), (8, 13), (9, 13), (1, 15), (3, 15), (4, 15), (8, 15), (9, 15)] := rfl
@[simp] theorem ps47_6 : E.ps 47 6 = [(4, 7), (4, 8)] := rfl
@[simp] theorem ps48_4 : E.ps 48 4 = [(2, 4), (2, 5)] := rfl
@[simp] theorem ps51_10 : E.ps 51 10 = [(0, 4), (1, 4)] := rfl
@[simp] theorem ps51_11 : E.ps 51 11 = [(1, 8), (3, 8), (4, 8), (1, 13), (3, 13), (4, 13), (8, 13), (9, 13), (1, 15), (3, 15), (4, 15), (8, 15), (9, 15)] := rfl
@[simp] theorem ps52_8 : E.ps 52 8 = [(11, 18), (11, 19)] := rfl
@[simp] theorem ps55_2 : E.ps 55 2 = [(2, 3)] := rfl
@[simp] theorem ps56_3 : E.ps 56 3 = [(1, 3), (3, 3)] := rfl
@[simp] theorem ps56_5 : E.ps 56 5 = [(1, 3), (3, 3)] := rfl
@[simp] theorem ps56_6 : E.ps 56 6 = [(3, 7)] := rfl
@[simp] theorem ps76_6 : E.ps 76 6 = [(3, 7)] := rfl
@[simp] theorem ps86_15 : E.ps 86 15 = [(1, 5), (1, 6)] := rfl
@[simp] theorem ps89_14 : E.ps 89 14 = [(1, 5), (1, 6)] := rfl
@[simp] theorem ps92_1 : E.ps 92 1 = [(3, 7)] := rfl
@[simp] theorem ps93_2 : E.ps 93 2 = [(4, 5)] := rfl
@[simp] theorem ps94_1 : E.ps 94 1 = [(3, 7), (3, 10), (7, 10), (9, 10)] := rfl
@[simp] theorem ps95_2 : E.ps 95 2 = [(3, 7), (3, 10), (7, 10), (9, 10)] := rfl
@[simp] theorem ps95_3 : E.ps 95 3 = [(0, 2)] := rfl
@[simp] theorem ps96_2 : E.ps 96 2 = [(4097, 4097), (1, 2), (1, 3), (2, 3), (1, 5), (2, 5), (3, 5)] := rfl
@[simp] theorem ps96_12 : E.ps 96 12 = [(1, 3), (3, 3)] := rfl
@[simp] theorem ps96_14 : E.ps 96 14 = [(1, 3), (3, 3)] := rfl
@[simp] theorem ps96_16 : E.ps 96 16 = [(1, 3), (3, 3)] := rfl
@[simp] theorem ps96_18 : E.ps 96 18 = [(1, 3), (3, 3)] := rfl
@[simp] theorem ps97_0 : E.ps 97 0 = [(4, 8), (15, 15)] := rfl
@[simp] theorem ps115_4 : E.ps 115 4 = [(4, 8)] := rfl
@[simp] theorem ps116_2 : E.ps 116 2 = [(3, 7)] := rfl
@[simp] theorem ps116_5 : E.ps 116 5 = [(4, 8)] := rfl
@[simp] theorem ps117_1 : E.ps 117 1 = [(3, 7)] := rfl
@[simp] theorem ps117_2 : E.ps 117 2 = [(6, 10), (6, 15), (10, 15)] := rfl
@[simp] theorem ps117_4 : E.ps 117 4 = [(3, 7), (3, 12), (7, 12)] := rfl
@[simp] theorem ps118_4 : E.ps 118 4 = [(3, 7)] := rfl
@[simp] theorem ps118_8 : E.ps 118 8 = [(3, 7)] := rfl
@[simp] theorem ps118_10 : E.ps 118 10 = [(4, 8), (4, 12), (8, 12), (4, 19), (8, 19), (12, 19)] := rfl
@[simp] theorem ps119_1 : E.ps 119 1 = [(3, 7), (3, 10), (7, 10), (9, 10)] := rfl
@[simp] theorem ps122_1 : E.ps 122 1 = [(3, 7), (3, 10), (7, 10), (9, 10)] := rfl
@[simp] theorem ps123_1 : E.ps 123 1 = [(3, 7), (3, 14), (7, 14), (9, 14)] := rfl
@[simp] theorem ps125_7 : E.ps 125 7 = [(3, 7), (3, 10), (7, 10), (9, 10)] := rfl
@[simp] theorem ps125_11 : E.ps 125 11 = [(1, 3)] := rfl
@[simp] theorem ps130_14 : E.ps 130 14 = [(1, 4), (1, 7), (4, 7)] := rfl
@[simp] theorem ps130_15 : E.ps 130 15 = [(1, 4)] := rfl
@[simp] theorem ps141_4 : E.ps 141 4 = [(0, 4), (4, 5)] := rfl
@[simp] theorem ps144_3 : E.ps 144 3 = [(1, 4), (2, 4)] := rfl
@[simp] theorem ps153_9 : E.ps 153 9 = [(4, 6), (4, 11)] := rfl
@[simp] theorem ps155_2 : E.ps 155 2 = [] := rfl
@[simp] theorem ps155_4 : E.ps 155 4 = [] := rfl
@[simp] theorem ps155_6 : E.ps 155 6 = [] := rfl
@[simp] theorem ps155_7 : E.ps 155 7 = [(2, 5)] := rfl
@[simp] theorem ps162_3 : E.ps 162 3 = [(0, 2), (2, 2)] := rfl
@[simp] theorem ps163_1 : E.ps 163 1 = [(1, 4), (1, 7), (4, 7), (1, 10), (4, 10), (7, 10)] := rfl
@[simp] theorem ps164_4 : E.ps 164 4 = [(13, 19)] := rfl
@[simp] theorem ps169_3 : E.ps 169 3 = [(0, 2), (2, 2)] := rfl
@[simp] theorem ps170_2 : E.ps 170 2 = [(1, 3)] := rfl
@[simp] theorem ps173_3 : E.ps 173 3 = [(0, 2), (2, 2)] := rfl
@[simp] theorem ps173_5 : E.ps 173 5 = [(0, 2), (2, 2)] := rfl
@[simp] theorem ps173_7 : E.ps 173 7 = [(0, 2), (2, 2)] := rfl
@[simp] theorem ps173_9 : E.ps 173 9 = [(0, 2), (2, 2)] := rfl
@[simp] theorem ps173_11 : E.ps 173 11 = [(0, 2), (2, 2)] := rfl
@[simp] theorem ps174_1 : E.ps 174 1 = [(3, 7)] := rfl
@[simp] theorem ps174_2 : E.ps 174 2 = [(3, 7)] := rfl
@[simp] theorem ps174_4 : E.ps 174 4 = [(3, 7)] := rfl
@[simp] theorem ps176_4 : E.ps 176 4 = [(0, 2), (2, 2)] := rfl
@[simp] theorem ps176_6 : E.ps 176 6 = [(0, 2), (2, 2)] := rfl
@[simp] theorem ps178_3 : E.ps 178 3 = [(0, 2), (2, 2)] := rfl
@[simp] theorem ps183_15 : E.ps 183 15 = [(4, 8), (14, 14)] := rfl
@[simp] theorem ps184_6 : E.ps 184 6 = [(7, 9), (7, 14)] := rfl
@[simp] theorem ps190_16 : E.ps 190 16 = [(0, 2), (2, 2)] := rfl

theorem tc46 : Tryz.prog.cellsOf 139 = 4 := by kernel_rfl
theorem ta46 : aggQ Tryz.prog 139 = true := by kernel_rfl
theorem tk46 : knownQ Tryz.prog 139 = true := by kernel_rfl
theorem ti46 : (Tryz.prog.info? 139).isSome = true := by kernel_rfl
theorem tz46 : zeroQ Tryz.prog 139 = some [.int .i64 0, .str [], .int .i64 0, .int .i64 0] := by kernel_rfl
theorem tp46 : partsQ Tryz.prog 139 = true := by kernel_rfl
theorem tq46_0 : fieldQ Tryz.prog 139 0 = some (0, 1, false) := by kernel_rfl
theorem tl46_0 : placeQ Tryz.prog 139 0 = some (0, 1) := by kernel_rfl
theorem tq46_1 : fieldQ Tryz.prog 139 1 = some (1, 1, false) := by kernel_rfl
theorem tl46_1 : placeQ Tryz.prog 139 1 = some (1, 1) := by kernel_rfl
theorem tq46_2 : fieldQ Tryz.prog 139 2 = some (2, 1, false) := by kernel_rfl
theorem tl46_2 : placeQ Tryz.prog 139 2 = some (2, 1) := by kernel_rfl
theorem tq46_3 : fieldQ Tryz.prog 139 3 = some (3, 1, false) := by kernel_rfl
theorem tl46_3 : placeQ Tryz.prog 139 3 = some (3, 1) := by kernel_rfl
theorem tc61 : Tryz.prog.cellsOf 135 = 3 := by kernel_rfl
theorem ta61 : aggQ Tryz.prog 135 = true := by kernel_rfl
theorem tk61 : knownQ Tryz.prog 135 = true := by kernel_rfl
theorem ti61 : (Tryz.prog.info? 135).isSome = true := by kernel_rfl
theorem tz61 : zeroQ Tryz.prog 135 = some [.str [], .int .i64 0, .slice [] .clip] := by kernel_rfl
theorem tp61 : partsQ Tryz.prog 135 = true := by kernel_rfl
theorem tq61_0 : fieldQ Tryz.prog 135 0 = some (0, 1, false) := by kernel_rfl
theorem tl61_0 : placeQ Tryz.prog 135 0 = some (0, 1) := by kernel_rfl
theorem tq61_1 : fieldQ Tryz.prog 135 1 = some (1, 1, false) := by kernel_rfl
theorem tl61_1 : placeQ Tryz.prog 135 1 = some (1, 1) := by kernel_rfl
theorem tq61_2 : fieldQ Tryz.prog 135 2 = some (2, 1, false) := by kernel_rfl
theorem tl61_2 : placeQ Tryz.prog 135 2 = some (2, 1) := by kernel_rfl
theorem tc66 : Tryz.prog.cellsOf 209 = 3 := by kernel_rfl
theorem ta66 : aggQ Tryz.prog 209 = true := by kernel_rfl
theorem tk66 : knownQ Tryz.prog 209 = true := by kernel_rfl
theorem ti66 : (Tryz.prog.info? 209).isSome = true := by kernel_rfl
theorem tz66 : zeroQ Tryz.prog 209 = some [.slice [] .clip, .int .i64 0, .int .i64 0] := by kernel_rfl
theorem tp66 : partsQ Tryz.prog 209 = true := by kernel_rfl
theorem tq66_0 : fieldQ Tryz.prog 209 0 = some (0, 1, false) := by kernel_rfl
theorem tl66_0 : placeQ Tryz.prog 209 0 = some (0, 1) := by kernel_rfl
theorem tq66_1 : fieldQ Tryz.prog 209 1 = some (1, 1, false) := by kernel_rfl
theorem tl66_1 : placeQ Tryz.prog 209 1 = some (1, 1) := by kernel_rfl
theorem tq66_2 : fieldQ Tryz.prog 209 2 = some (2, 1, false) := by kernel_rfl
theorem tl66_2 : placeQ Tryz.prog 209 2 = some (2, 1) := by kernel_rfl
theorem tc68 : Tryz.prog.cellsOf 211 = 2 := by kernel_rfl
theorem ta68 : aggQ Tryz.prog 211 = true := by kernel_rfl
theorem tk68 : knownQ Tryz.prog 211 = true := by kernel_rfl
theorem ti68 : (Tryz.prog.info? 211).isSome = true := by kernel_rfl
theorem tz68 : zeroQ Tryz.prog 211 = some [.int .i64 0, .int .i64 0] := by kernel_rfl
theorem tp68 : partsQ Tryz.prog 211 = true := by kernel_rfl
theorem tq68_0 : fieldQ Tryz.prog 211 0 = some (0, 1, false) := by kernel_rfl
theorem tl68_0 : placeQ Tryz.prog 211 0 = some (0, 1) := by kernel_rfl
theorem tq68_1 : fieldQ Tryz.prog 211 1 = some (1, 1, false) := by kernel_rfl
theorem tl68_1 : placeQ Tryz.prog 211 1 = some (1, 1) := by kernel_rfl
theorem tc58 : Tryz.prog.cellsOf 106 = 3 := by kernel_rfl
theorem ta58 : aggQ Tryz.prog 106 = true := by kernel_rfl
theorem tk58 : knownQ Tryz.prog 106 = true := by kernel_rfl
theorem ti58 : (Tryz.prog.info? 106).isSome = true := by kernel_rfl
theorem tz58 : zeroQ Tryz.prog 106 = some [.int .i64 0, .int .i64 0, .nilif] := by kernel_rfl
theorem tp58 : partsQ Tryz.prog 106 = true := by kernel_rfl
theorem tq58_0 : fieldQ Tryz.prog 106 0 = some (0, 1, false) := by kernel_rfl
theorem tl58_0 : placeQ Tryz.prog 106 0 = some (0, 1) := by kernel_rfl
theorem tq58_1 : fieldQ Tryz.prog 106 1 = some (1, 1, false) := by kernel_rfl
theorem tl58_1 : placeQ Tryz.prog 106 1 = some (1, 1) := by kernel_rfl
theorem tq58_2 : fieldQ Tryz.prog 106 2 = some (2, 1, false) := by kernel_rfl
theorem tl58_2 : placeQ Tryz.prog 106 2 = some (2, 1) := by kernel_rfl
theorem tc39 : Tryz.prog.cellsOf 90 = 1 := by kernel_rfl
theorem ta39 : aggQ Tryz.prog 90 = false := by kernel_rfl
theorem tk39 : knownQ Tryz.prog 90 = true := by kernel_rfl
theorem ti39 : (Tryz.prog.info? 90).isSome = true := by kernel_rfl
theorem tc27 : Tryz.prog.cellsOf 46 = 1 := by kernel_rfl
theorem ta27 : aggQ Tryz.prog 46 = false := by kernel_rfl
theorem tk27 : knownQ Tryz.prog 46 = true := by kernel_rfl
theorem ti27 : (Tryz.prog.info? 46).isSome = true := by kernel_rfl
theorem tc30 : Tryz.prog.cellsOf 27 = 1 := by kernel_rfl
theorem ta30 : aggQ Tryz.prog 27 = false := by kernel_rfl
theorem tk30 : knownQ Tryz.prog 27 = true := by kernel_rfl
theorem ti30 : (Tryz.prog.info? 27).isSome = true := by kernel_rfl
theorem tc64 : Tryz.prog.cellsOf 207 = 1 := by kernel_rfl
theorem ta64 : aggQ Tryz.prog 207 = false := by kernel_rfl
theorem tk64 : knownQ Tryz.prog 207 = true := by kernel_rfl
theorem ti64 : (Tryz.prog.info? 207).isSome = true := by kernel_rfl
theorem tc20 : Tryz.prog.cellsOf 20 = 1 := by kernel_rfl
theorem ta20 : aggQ Tryz.prog 20 = false := by kernel_rfl
theorem tk20 : knownQ Tryz.prog 20 = true := by kernel_rfl
theorem ti20 : (Tryz.prog.info? 20).isSome = true := by kernel_rfl
theorem tc55 : Tryz.prog.cellsOf 103 = 1 := by kernel_rfl
theorem ta55 : aggQ Tryz.prog 103 = false := by kernel_rfl
theorem tk55 : knownQ Tryz.prog 103 = true := by kernel_rfl
theorem ti55 : (Tryz.prog.info? 103).isSome = true := by kernel_rfl
theorem tr55 : ptrQ Tryz.prog 103 = true := by kernel_rfl
theorem tn51 : concQ Tryz.prog 102 = true := by kernel_rfl
theorem tn56 : concQ Tryz.prog 104 = true := by kernel_rfl
theorem ts39 : sliceQ Tryz.prog 90 = some 139 := by kernel_rfl
theorem tb30 : boolQ Tryz.prog 27 = false := by kernel_rfl
theorem tf27 : ifcQ Tryz.prog 46 = true := by kernel_rfl
theorem tn55 : concQ Tryz.prog 103 = true := by kernel_rfl
theorem tn68 : concQ Tryz.prog 211 = true := by kernel_rfl
theorem tu39 : Tryz.prog.underlying 90 = some (.slice 139) := by kernel_rfl
theorem ty46 : Tryz.prog.bytesOf 139 = 40 := by kernel_rfl
theorem c5 : Tryz.prog.cellsOf 5 = 1 := by kernel_rfl
theorem a5 : aggQ Tryz.prog 5 = false := by kernel_rfl
theorem bq9 : boolQ Tryz.prog 9 = false := by kernel_rfl
theorem sq9 : strQ Tryz.prog 9 = true := by kernel_rfl
theorem k9 : knownQ Tryz.prog 9 = true := by kernel_rfl
theorem a9 : aggQ Tryz.prog 9 = false := by kernel_rfl
theorem iq5 : intQ Tryz.prog 5 = some .u8 := by kernel_rfl
theorem iq2 : intQ Tryz.prog 2 = some .i64 := by kernel_rfl
theorem fq1 : fieldQ Tryz.prog 33 1 = some (1, 1, false) := by kernel_rfl
theorem fq2 : fieldQ Tryz.prog 33 2 = some (2, 1, false) := by kernel_rfl
theorem fq3 : fieldQ Tryz.prog 33 3 = some (3, 1, false) := by kernel_rfl
theorem cells_all (x : X) : x.cells.all AV.isCell = true := by
  cases x; rfl
end Go.Proofs.YtcpoinfdnimanaaGreatDoor.PT
/- Names and texts that may be, evaluated. No condition. -/
namespace Go.Proofs.YtcpoinfdnimanaaGreatDoor.PT
set_option linter.unusedVariables false
set_option linter.unusedSimpArgs false
open Go AE EX
set_option maxRecDepth 100000

theorem bq5 : boolQ Tryz.prog 5 = false := by kernel_rfl

def headB (c : Int) : Bool := (decide (97 ≤ c) && decide (c ≤ 122)) || (decide (65 ≤ c) && decide (c ≤ 90)) || c == 95
def tailB (c : Int) : Bool := headB c || (decide (48 ≤ c) && decide (c ≤ 57))
/-! ### a text -/
def badB (c : UInt8) : Bool := ((c.toNat : Int) == 34) || ((c.toNat : Int) == 10)
def plainB (s : List UInt8) : Bool := decide (s.length ≤ 32) && s.all fun c => !badB c

def PI (s : List UInt8) (S0 : St) (m : Nat) (fs : FS) : Prop :=
  ∃ i, i + m = s.length ∧ fs.t 0 = .str s ∧ fs.t 3 = .int .i64 i ∧ fs.S = S0 ∧ (s.take i).all (fun c => !badB c) = true
def PQ (s : List UInt8) (S0 : St) (r : Out × FS) : Prop :=
  r.2.S = S0 ∧ ((r.1 = .exit 0 ∧ s.all (fun c => !badB c) = true) ∨ (r.1 = .ret ∧ r.2.t 2 = .bool false ∧ s.all (fun c => !badB c) = false))

end Go.Proofs.YtcpoinfdnimanaaGreatDoor.PT
/- Names, kinds, evaluated. No condition. -/
namespace Go.Proofs.YtcpoinfdnimanaaGreatDoor.PT
set_option linter.unusedVariables false
set_option linter.unusedSimpArgs false
open Go AE EX
set_option maxRecDepth 100000

def tl (c : UInt8) : Bool := tailB (c.toNat : Int)
def nameB : List UInt8 → Bool
  | [] => false
  | c :: r => decide (r.length + 1 ≤ 16) && headB (c.toNat : Int) && r.all tl

def NI (c : UInt8) (r : List UInt8) (S0 : St) (m : Nat) (fs : FS) : Prop :=
  ∃ i, i + m = r.length ∧ fs.t 0 = .str (c :: r) ∧ fs.t 3 = .int .i64 (i + 1 : Nat) ∧ fs.S = S0 ∧ (r.take i).all tl = true
def NQ (c : UInt8) (r : List UInt8) (S0 : St) (x : Out × FS) : Prop :=
  x.2.S = S0 ∧ ((x.1 = .exit 0 ∧ r.all tl = true) ∨ (x.1 = .ret ∧ x.2.t 2 = .bool false ∧ r.all tl = false))

end Go.Proofs.YtcpoinfdnimanaaGreatDoor.PT
/- What an expression's own parts have to be, evaluated. No condition. -/
namespace Go.Proofs.YtcpoinfdnimanaaGreatDoor.PT
set_option linter.unusedVariables false
set_option linter.unusedSimpArgs false
open Go AE EX
set_option maxRecDepth 100000

def kidsI (k : Int) : Int := if k < 1 ∨ 25 < k then -2 else if k = 4 then -1 else if k ≤ 7 ∨ k = 13 ∨ k = 21 then 0 else if k = 11 ∨ k = 12 ∨ k = 18 ∨ k = 25 ∨ k = 22 ∨ k = 23 then 1 else 2
def kinds (k : Int) : Prop := k = 1 ∨ k = 2 ∨ k = 3 ∨ k = 4 ∨ k = 5 ∨ k = 6 ∨ k = 7 ∨ k = 8 ∨ k = 9 ∨ k = 10 ∨ k = 11 ∨ k = 12 ∨ k = 13 ∨ k = 14 ∨ k = 15 ∨ k = 16 ∨ k = 17 ∨ k = 18 ∨ k = 19 ∨ k = 20 ∨ k = 21 ∨ k = 22 ∨ k = 23 ∨ k = 24 ∨ k = 25
theorem kinds_iff (k : Int) : kinds k ↔ 1 ≤ k ∧ k ≤ 25 := by unfold kinds; omega

structure Fits (k : Int) (nm : List UInt8) (n lo hi : Int) : Prop where
  text : k = 3 → plainB nm = true
  name : k = 5 ∨ k = 6 ∨ k = 13 ∨ k = 21 → nameB nm = true
  none : ¬ (k = 3 ∨ k = 5 ∨ k = 6 ∨ k = 13 ∨ k = 21) → nm = []
  int : k = 1 → 0 ≤ n
  bool : k = 2 → n = 0 ∨ n = 1
  num : k ≠ 1 → k ≠ 2 → n = 0
  span : k = 22 ∨ k = 23 ∨ k = 24 → 0 ≤ lo ∧ (hi = -1 ∨ lo ≤ hi)
  times : k = 13 → lo = 0 ∧ 0 ≤ hi
  zero : ¬ (k = 22 ∨ k = 23 ∨ k = 24 ∨ k = 13) → lo = 0 ∧ hi = 0

end Go.Proofs.YtcpoinfdnimanaaGreatDoor.PT
/- What an expression's own parts have to be, evaluated (2). No condition. -/
namespace Go.Proofs.YtcpoinfdnimanaaGreatDoor.PT
set_option linter.unusedVariables false
set_option linter.unusedSimpArgs false
open Go AE EX
set_option maxRecDepth 100000

end Go.Proofs.YtcpoinfdnimanaaGreatDoor.PT
/- Sets that may be, evaluated. No condition. -/
namespace Go.Proofs.YtcpoinfdnimanaaGreatDoor.PT
set_option linter.unusedVariables false
set_option linter.unusedSimpArgs false
open Go AE EX
set_option maxRecDepth 100000

def _root_.Go.Proofs.YtcpoinfdnimanaaGreatDoor.EX.X.nm : X → List UInt8
  | .mk _ nm _ _ _ _ _ => nm
/-- the kid of a set at i: a text, behind the one ahead of it -/
def kidOK (l : List X) (i : Nat) : Prop := ∃ nm tk, l[i]? = some (.mk 3 nm 0 0 0 tk []) ∧ plainB nm = true ∧ (0 < i → ∀ y, l[i - 1]? = some y → (Op.bytesLess nm y.nm || nm == y.nm) = false)
def SetKid (x : X) : Prop := ∃ nm tk, x = .mk 3 nm 0 0 0 tk [] ∧ plainB nm = true
def SetOK (l : List X) : Prop := l.length ≤ 8 ∧ ∀ i, i < l.length → kidOK l i

theorem SetOK.kid {l : List X} (h : SetOK l) : ∀ x ∈ l, SetKid x := fun x hx => by
  obtain ⟨i, hi, e⟩ := List.getElem_of_mem hx
  obtain ⟨nm, tk, he, hp, _⟩ := h.2 i hi
  rw [List.getElem?_eq_getElem hi, e] at he
  cases he
  exact ⟨nm, tk, rfl, hp⟩

def SI (n : Nat) (C : List AV) (kids : List X) (S0 : St) (m : Nat) (fs : FS) : Prop :=
  ∃ i, i + m = kids.length ∧ fs.t 1 = .loc n 1 1 0 ∧ fs.b 1 = (1, C) ∧ fs.t 3 = .int .i64 i ∧ fs.S = S0 ∧ ∀ j, j < i → kidOK kids j
def SQ (kids : List X) (S0 : St) (r : Out × FS) : Prop :=
  r.2.S = S0 ∧ ((r.1 = .exit 0 ∧ ∀ j, j < kids.length → kidOK kids j) ∨ (r.1 = .ret ∧ r.2.t 2 = .bool false ∧ ∃ j, j < kids.length ∧ ¬ kidOK kids j))

end Go.Proofs.YtcpoinfdnimanaaGreatDoor.PT
/- Sets that may be; how deep, evaluated. No condition. -/
namespace Go.Proofs.YtcpoinfdnimanaaGreatDoor.PT
set_option linter.unusedVariables false
set_option linter.unusedSimpArgs false
open Go AE EX
set_option maxRecDepth 100000

/-! ### how deep -/
mutual
def _root_.Go.Proofs.YtcpoinfdnimanaaGreatDoor.EX.X.dep : X → Nat
  | .mk k _ _ _ _ _ kids => if k == 4 then 1 else depL kids + 1
def depL : List X → Nat
  | [] => 0
  | x :: l => if depL l < x.dep then x.dep else depL l
end
/-- the deepest of the first ones, as the loop finds it -/
def depF (l : List X) : Nat := l.foldl (fun m x => if m < x.dep then x.dep else m) 0
theorem depF_snoc (l : List X) (x : X) : depF (l ++ [x]) = if depF l < x.dep then x.dep else depF l := by unfold depF; rw [List.foldl_append]; rfl
mutual
theorem dep_size : ∀ x : X, x.dep ≤ x.size
  | .mk k _ _ _ _ _ kids => by
    have := depL_size kids
    simp only [X.dep, X.size]
    split <;> omega
theorem depL_size : ∀ l : List X, depL l ≤ sizeL l
  | [] => by simp [depL]
  | x :: l => by have := dep_size x; have := depL_size l; simp only [depL, sizeL]; split <;> omega
end
theorem foldl_max (l : List X) : ∀ m, l.foldl (fun m x => if m < x.dep then x.dep else m) m = max m (depL l) := by
  induction l with
  | nil => intro m; simp [depL]
  | cons x l ih =>
    intro m
    simp only [List.foldl_cons, ih, depL]
    split <;> split <;> omega
theorem depF_eq (l : List X) : depF l = depL l := by unfold depF; rw [foldl_max]; omega

def DPI (n : Nat) (C : List AV) (kids : List X) (S0 : St) (i : Nat) (fs : FS) : Prop :=
  fs.t 1 = .loc n 1 1 0 ∧ fs.b 1 = (1, C) ∧ fs.t 4 = .int .i64 i ∧ fs.t 3 = .int .i64 (depF (kids.take i)) ∧ fs.S = S0

end Go.Proofs.YtcpoinfdnimanaaGreatDoor.PT
/- All that is in an expression, evaluated. No condition. -/
namespace Go.Proofs.YtcpoinfdnimanaaGreatDoor.PT
set_option linter.unusedVariables false
set_option linter.unusedSimpArgs false
open Go AE EX
set_option maxRecDepth 100000

mutual
def _root_.Go.Proofs.YtcpoinfdnimanaaGreatDoor.EX.X.nodes : X → List X
  | .mk k nm n lo hi tk kids => .mk k nm n lo hi tk kids :: if k == 4 then [] else nodesL kids
def nodesL : List X → List X
  | [] => []
  | x :: l => x.nodes ++ nodesL l
end
mutual
theorem nodes_size : ∀ x : X, x.nodes.length ≤ x.size
  | .mk k _ _ _ _ _ kids => by
    have := nodesL_size kids
    simp only [X.nodes, X.size, List.length_cons]
    split <;> simp <;> omega
theorem nodesL_size : ∀ l : List X, (nodesL l).length ≤ sizeL l
  | [] => by simp [nodesL]
  | x :: l => by have := nodes_size x; have := nodesL_size l; simp only [nodesL, sizeL, List.length_append]; omega
end
theorem nodesL_append (a b : List X) : nodesL (a ++ b) = nodesL a ++ nodesL b := by
  induction a with
  | nil => rfl
  | cons x a ih => simp [nodesL, ih]
theorem nodes_ne (x : X) : x.nodes ≠ [] := by cases x; simp [X.nodes]
theorem embL_append (a b : List X) : embL (a ++ b) = embL a ++ embL b := by simp [embL_map]
theorem embL_length (a : List X) : (embL a).length = a.length := by simp [embL_map]
theorem embL_nil {a : List X} : embL a = [] ↔ a = [] := by cases a <;> simp [embL]
theorem sizes_emb : ∀ l : List X, sizesOk 6 (embL l) = true
  | [] => rfl
  | x :: l => by
    obtain ⟨h1, h2⟩ := cells_ok x
    simp [embL, sizesOk, h1, h2, sizes_emb l]
mutual
theorem strip_emb (t0 : Nat) : ∀ x : X, x.emb.strip t0 = x.emb
  | .mk _ _ _ _ _ tk kids => by cases tk <;> simp [X.emb, AV.strip, AV.stripL, tokOf, strip_embL t0 kids]
theorem strip_embL (t0 : Nat) : ∀ l : List X, AV.stripL t0 (embL l) = embL l
  | [] => rfl
  | x :: l => by simp [embL, AV.stripL, strip_emb t0 x, strip_embL t0 l]
end
mutual
theorem low_emb (h0 t0 : Nat) : ∀ x : X, x.emb.low h0 t0 = true
  | .mk _ _ _ _ _ tk kids => by cases tk <;> simp [X.emb, AV.low, AV.lowL, tokOf, low_embL h0 t0 kids]
theorem low_embL (h0 t0 : Nat) : ∀ l : List X, AV.lowL h0 t0 (embL l) = true
  | [] => rfl
  | x :: l => by simp [embL, AV.lowL, low_emb h0 t0 x, low_embL h0 t0 l]
end
theorem fin_clip (l : List X) (S : St) : finish S (.slice (embL l) .clip) S = some (.slice (embL l) .clip, S) :=
  finish_same (by simp [AV.sealed, sealed_embL]) (by simp [AV.strip, strip_embL]) (by simp [AV.low, low_embL]) rfl rfl
theorem fin_own (l : List X) (S : St) (p : Nat) (ex : List Nat) : finish S (.slice (embL l) (.own S.T.length p)) ⟨S.H, S.T ++ ex⟩ = some (.slice (embL l) .non, S) := by
  unfold finish
  simp [AV.sealed, AV.strip, AV.low, boxEqL_refl, sealed_embL, strip_embL, low_embL]

theorem by24 : Tryz.prog.bytesOf 33 = 72 := by kernel_rfl
theorem appC (l r : List X) (tok : Tok) (S : St) (hr : r ≠ []) (h1 : l.length ≤ 1048576) (h2 : r.length ≤ 1048576) :
    evAppend Tryz.prog [31, 31] (.slice (embL l) .clip) (.slice (embL r) tok) S = some (.slice (embL (l ++ r)) (.own S.T.length ((l.length + r.length) * 6)), ⟨S.H, S.T ++ [(l.length + r.length) * 6]⟩) := by
  simp [evAppend, sq22, u22, elemsOf, z24, c24, by24, sizes_emb, embL_length, embL_append, embL_nil, hr]
  omega
theorem appO (l r : List X) (tok : Tok) (S : St) (p : Nat) (hr : r ≠ []) (h1 : l.length ≤ 1048576) (h2 : r.length ≤ 1048576) :
    evAppend Tryz.prog [31, 31] (.slice (embL l) (.own S.T.length p)) (.slice (embL r) tok) ⟨S.H, S.T ++ [p]⟩ = some (.slice (embL (l ++ r)) (.own S.T.length (p + r.length * 6)), ⟨S.H, S.T ++ [p + r.length * 6]⟩) := by
  simp [evAppend, sq22, u22, elemsOf, z24, c24, by24, sizes_emb, embL_length, embL_append, embL_nil, hr]
  omega

def GI (n : Nat) (C : List AV) (e : X) (kids : List X) (S0 : St) (i : Nat) (fs : FS) : Prop :=
  fs.t 1 = .loc n 1 1 0 ∧ fs.b 1 = (1, C) ∧ fs.t 4 = .int .i64 i ∧
    (if i = 0 then fs.t 3 = .slice (embL [e]) .clip ∧ fs.S = S0 else ∃ p, fs.t 3 = .slice (embL (e :: nodesL (kids.take i))) (.own S0.T.length p) ∧ fs.S = ⟨S0.H, S0.T ++ [p]⟩)

def allTok (x : X) : Tok := match x with | .mk k _ _ _ _ _ kids => if k == 4 then .clip else if kids.length = 0 then .clip else .non

theorem take_size (l : List X) (i : Nat) : sizeL (l.take i) ≤ sizeL l := by
  have : sizeL l = sizeL (l.take i) + sizeL (l.drop i) := by rw [← sizeL_append, List.take_append_drop]
  omega

end Go.Proofs.YtcpoinfdnimanaaGreatDoor.PT
/- Whether an expression may be, evaluated. No condition. -/
namespace Go.Proofs.YtcpoinfdnimanaaGreatDoor.PT
set_option linter.unusedVariables false
set_option linter.unusedSimpArgs false
open Go AE EX
set_option maxRecDepth 100000

def Good : X → Prop
  | .mk k nm n lo hi _ kids => kinds k ∧ (k ≠ 4 → (kids.length : Int) = kidsI k) ∧ (k = 4 → SetOK kids) ∧ Fits k nm n lo hi

theorem kidsI_vals {k : Int} (h : kinds k) (h4 : k ≠ 4) : 0 ≤ kidsI k ∧ kidsI k ≤ 2 := by
  have := (kinds_iff k).1 h
  unfold kidsI
  rw [if_neg (by omega), if_neg h4]
  split
  · omega
  · split <;> omega
theorem kidsI_out {k : Int} (h : ¬ kinds k) : kidsI k = -2 := by
  rw [kinds_iff] at h
  unfold kidsI
  rw [if_pos (by omega)]

end Go.Proofs.YtcpoinfdnimanaaGreatDoor.PT
/- Whether an expression may be, evaluated (2). No condition. -/
namespace Go.Proofs.YtcpoinfdnimanaaGreatDoor.PT
set_option linter.unusedVariables false
set_option linter.unusedSimpArgs false
open Go AE EX
set_option maxRecDepth 100000

/-- an expression that may be -/
def OKx (x : X) : Prop := x.dep ≤ 12 ∧ x.nodes.length ≤ 64 ∧ ∀ y ∈ x.nodes, Good y
mutual
theorem size7 : ∀ x : X, 7 * x.size ≤ x.bulk
  | .mk _ nm _ _ _ _ kids => by have := size7L kids; simp only [X.size, X.bulk]; omega
theorem size7L : ∀ l : List X, 7 * sizeL l ≤ bulkL l
  | [] => by simp [sizeL]
  | x :: l => by have := size7 x; have := size7L l; simp only [sizeL, bulkL]; omega
end

end Go.Proofs.YtcpoinfdnimanaaGreatDoor.PT
/- ast's small functions, evaluated. No condition. -/
namespace Go.Proofs.YtcpoinfdnimanaaGreatDoor.NF
set_option linter.unusedVariables false
set_option linter.unusedSimpArgs false
open Go AE EX PT
set_option maxRecDepth 100000

theorem ev_inner (n : Nat) (k : Int) (nm : List UInt8) (a lo hi : Int) (tk : Bool) (kids : List X) (S : St) :
    ev Tryz.prog E (n + 1) 150 [(X.mk k nm a lo hi tk kids).emb] S = some (.ret (if k == 4 then .slice [] .clip else .slice (embL kids) (tokOf tk)), S) := by
  simp only [X.emb]
  have hf : finish S (.slice [] .clip) S = some (.slice [] .clip, S) := fin_clip [] S
  have hf2 : finish S (.slice (embL kids) (tokOf tk)) S = some (.slice (embL kids) (tokOf tk), S) :=
    finish_same (by simp [AV.sealed, sealed_embL]) (by cases tk <;> simp [AV.strip, strip_embL, tokOf]) (by cases tk <;> simp [AV.low, low_embL, tokOf]) rfl rfl
  rw [ev_enter (n := n) (show E.ok 150 = true from rfl) Tryz.func150 (fn := Tryz.f150) rfl (Nat.le_of_ble_eq_true rfl) (by decide +kernel)]
  cases h4 : k == 4
  · simp (disch := first | (simp only [List.length_append, List.length_cons, List.length_nil]; omega) | (simp; done) | assumption) [AV.cells?, AV.isCell, Tryz.f150, E_esc, k24, c24, a24, k3, c3, a3, k22, c22, a22, fq0, fq5, bq3, h4, hf2]
  · simp (disch := first | (simp only [List.length_append, List.length_cons, List.length_nil]; omega) | (simp; done) | assumption) [AV.cells?, AV.isCell, Tryz.f150, E_esc, k24, c24, a24, k3, c3, a3, k22, c22, a22, fq0, fq5, bq3, h4, hf]
end Go.Proofs.YtcpoinfdnimanaaGreatDoor.NF
/- ast's depth and size, evaluated. No condition. -/
namespace Go.Proofs.YtcpoinfdnimanaaGreatDoor.NF
set_option linter.unusedVariables false
set_option linter.unusedSimpArgs false
open Go AE EX PT
set_option maxRecDepth 100000

noncomputable def adLoop : Code := cutC (bodyOf Tryz.f142) [1, 1, 0, 1, 0, 0]
noncomputable def ad0 : Code := cutC (bodyOf Tryz.f142) [0]
noncomputable def ad1 : Code := cutC (bodyOf Tryz.f142) [1, 0]
noncomputable def ad2 : Code := cutC (bodyOf Tryz.f142) [1, 1, 0, 0]
noncomputable def ad3 : Code := cutC (bodyOf Tryz.f142) [1, 1, 1]
theorem f57b : Tryz.f142.body = some (.seq ad0 (.seq ad1 (.seq (.seq ad2 (.block 0 (.loop adLoop))) ad3))) := rfl

def ADI (kids : List X) (tok : Tok) (S0 : St) (i : Nat) (fs : FS) : Prop :=
  fs.t 7 = .slice (embL kids) tok ∧ fs.t 8 = .int .i64 kids.length ∧ fs.t 9 = .int .i64 i ∧ fs.t 3 = .int .i64 (depF (kids.take i)) ∧ fs.S = S0

theorem ad_round (n : Nat) (kids : List X) (tok : Tok) (S0 : St) (hs : kids.length ≤ 1099511627776)
    (hrec : ∀ x ∈ kids, ∀ S, ev Tryz.prog E n 142 [x.emb] S = some (.ret (.int .i64 x.dep), S)) (i : Nat) (hi : i < kids.length) (fs : FS) (h : ADI kids tok S0 i fs) :
    ∃ fs', evCode ⟨Tryz.prog, E.esc 142, n⟩ (ev Tryz.prog E n) (E.ps 142) n adLoop fs = some (.norm, fs') ∧ ADI kids tok S0 (i + 1) fs' := by
  obtain ⟨t, b, v, S⟩ := fs
  obtain ⟨h1, h2, h3, h4, h5⟩ := h
  simp only at h1 h2 h3 h4 h5
  subst h5
  have hltz : (i : Int) < kids.length := by omega
  have hxe : kids[i]? = some kids[i] := List.getElem?_eq_getElem hi
  have hr := hrec kids[i] (List.getElem_mem hi) S
  have hsplit : kids.take (i + 1) = kids.take i ++ [kids[i]] := by rw [List.take_add_one, hxe]; rfl
  have hd : depF (kids.take (i + 1)) = if depF (kids.take i) < kids[i].dep then kids[i].dep else depF (kids.take i) := by rw [hsplit, depF_snoc]
  have hemb : (embL kids)[i]? = some kids[i].emb := by rw [embL_map, List.getElem?_map, hxe]; rfl
  have ha1 := cells_all kids[i]
  have hc1 := (cells_ok kids[i]).2
  have ht1 : List.take 6 kids[i].cells = kids[i].cells := List.take_of_length_le (by omega)
  rw [emb_cells] at hemb hr
  generalize kids[i].dep = d at *
  generalize kids[i].cells = C1 at *
  generalize depF (kids.take i) = e at *
  have hw : IntKind.i64.wrap ((i : Int) + 1) = (i : Int) + 1 := wrap64 _ (by omega)
  obtain ⟨z, hz⟩ := ii24
  by_cases hlt : e < d
  · have hltz' : (e : Int) < d := by omega
    refine ⟨_, by
      simp (disch := first | (simp only [List.length_append, List.length_cons, List.length_nil]; omega) | (simp; done) | assumption) [AV.cells?, AV.isCell, adLoop, cutC, bodyOf, Tryz.f142, E_esc, h1, h2, h3, h4, k24, c24, a24, z24, i24, hz, sq22, bq3, hi, hltz, hemb, hr, ha1, hc1, ht1, hlt, hltz']
      rfl, by simp [upd, h1], by simp [upd, h2], by simp [upd, hw], by rw [hd, if_pos hlt]; simp [upd], rfl⟩
  · have hltz' : ¬ (e : Int) < d := by omega
    refine ⟨_, by
      simp (disch := first | (simp only [List.length_append, List.length_cons, List.length_nil]; omega) | (simp; done) | assumption) [AV.cells?, AV.isCell, adLoop, cutC, bodyOf, Tryz.f142, E_esc, h1, h2, h3, h4, k24, c24, a24, z24, i24, hz, sq22, bq3, hi, hltz, hemb, hr, ha1, hc1, ht1, hlt, hltz']
      rfl, by simp [upd, h1], by simp [upd, h2], by simp [upd, hw], by rw [hd, if_neg hlt]; simp [upd, h4], rfl⟩

theorem ad_all (n : Nat) (kids : List X) (tok : Tok) (S : St) (hs : kids.length ≤ 1048576) (hl : kids.length < n)
    (hrec : ∀ x ∈ kids, ∀ S, ev Tryz.prog E n 142 [x.emb] S = some (.ret (.int .i64 x.dep), S)) (fs : FS) (h : ADI kids tok S 0 fs) :
    ∃ fs', iter n (evCode ⟨Tryz.prog, E.esc 142, n⟩ (ev Tryz.prog E n) (E.ps 142) n adLoop) fs = some (.exit 0, fs') ∧ fs'.t 3 = .int .i64 (depL kids) ∧ fs'.S = S := by
  obtain ⟨⟨o, fs'⟩, r1, r2, r3⟩ := iter_range (Q := fun r => r.1 = .exit 0 ∧ ADI kids tok S kids.length r.2) (len := kids.length)
    (fun i hi fs h => ad_round n kids tok S (by omega) hrec i hi fs h)
    (fun fs h => by
      obtain ⟨t, b, v, S'⟩ := fs
      obtain ⟨h1, h2, h3, h4, h5⟩ := h
      simp only at h1 h2 h3 h4 h5
      refine ⟨.exit 0, _, by
        simp (disch := first | (simp only [List.length_append, List.length_cons, List.length_nil]; omega) | (simp; done) | assumption) [AV.cells?, AV.isCell, adLoop, cutC, bodyOf, Tryz.f142, h1, h2, h3, bq3]
        rfl, by simp, rfl, by simp [upd, h1], by simp [upd, h2], by simp [upd, h3], by simp [upd, h4], h5⟩) kids.length 0 n fs (by omega) hl h
  simp only at r2
  subst r2
  obtain ⟨_, _, _, q4, q5⟩ := r3
  rw [List.take_length, depF_eq] at q4
  exact ⟨fs', r1, q4, q5⟩

theorem ev_aDepth : ∀ (m : Nat) (x : X), x.size ≤ m → m ≤ 1048576 → ∀ n, m + 2 ≤ n → ∀ S, ev Tryz.prog E n 142 [x.emb] S = some (.ret (.int .i64 x.dep), S)
  | 0, x, hm, _, _, _, _ => absurd hm (by have := size_pos x; omega)
  | m + 1, x, hm, hmm, n, hn, S => by
    obtain ⟨n, rfl⟩ : ∃ k, n = k + 2 := ⟨n - 2, by omega⟩
    have hds := dep_size x
    obtain ⟨k, nm, a, lo, hi, tk, kids⟩ := x
    simp only [X.size] at hm hds
    have hl := sizeL_length kids
    have hin := ev_inner n k nm a lo hi tk kids S
    have hlen := embL_length kids
    simp only [X.emb] at hin ⊢
    rw [ev_enter (n := n + 1) (show E.ok 142 = true from rfl) Tryz.func142 f57b (Nat.le_of_ble_eq_true rfl) (by decide +kernel)]
    cases h4 : k == 4
    · rw [h4] at hin
      simp only [Bool.false_eq_true, if_false] at hin
      obtain ⟨⟨t, b, v, S'⟩, hr, g3, g5⟩ := ad_all (n + 1) kids (tokOf tk) S (by omega) (by omega) (fun x hx S => ev_aDepth m x (by have := sizeL_mem hx; omega) (by omega) (n + 1) (by omega) S)
        ⟨upd 9 (.int .i64 0) (upd 8 (.int .i64 kids.length) (upd 7 (.slice (embL kids) (tokOf tk)) (upd 6 (.agg [.int .i64 k, .str nm, .int .i64 a, .int .i64 lo, .int .i64 hi, .slice (embL kids) (tokOf tk)]) (upd 3 (.int .i64 0) (upd 2 (.int .i64 0) (upd 1 (.loc (n + 1) 1 1 0) (argsA [.agg [.int .i64 k, .str nm, .int .i64 a, .int .i64 lo, .int .i64 hi, .slice (embL kids) (tokOf tk)]]))))))),
          upd 1 (1, [.int .i64 k, .str nm, .int .i64 a, .int .i64 lo, .int .i64 hi, .slice (embL kids) (tokOf tk)]) (fun _ => (0, [])), 7, S⟩
        ⟨by simp [upd], by simp [upd], by simp [upd], by simp [upd, depF], rfl⟩
      simp only at g3 g5
      subst g5
      have w1 : IntKind.i64.wrap ((depL kids : Int) + 1) = (depL kids : Int) + 1 := wrap64 _ (by have := depL_size kids; omega)
      simp (disch := first | (simp only [List.length_append, List.length_cons, List.length_nil]; omega) | (simp; done) | assumption) [AV.cells?, AV.isCell, ad0, ad1, ad2, ad3, cutC, bodyOf, Tryz.f142, E_esc, k24, c24, a24, sq22, bq3, hin, hlen, hr, g3, w1, X.dep, h4]
    · rw [h4] at hin
      simp only [if_true] at hin
      obtain ⟨⟨t, b, v, S'⟩, hr, g3, g5⟩ := ad_all (n + 1) [] .clip S (by simp) (by simp) (fun x hx S => by cases hx)
        ⟨upd 9 (.int .i64 0) (upd 8 (.int .i64 0) (upd 7 (.slice [] .clip) (upd 6 (.agg [.int .i64 k, .str nm, .int .i64 a, .int .i64 lo, .int .i64 hi, .slice (embL kids) (tokOf tk)]) (upd 3 (.int .i64 0) (upd 2 (.int .i64 0) (upd 1 (.loc (n + 1) 1 1 0) (argsA [.agg [.int .i64 k, .str nm, .int .i64 a, .int .i64 lo, .int .i64 hi, .slice (embL kids) (tokOf tk)]]))))))),
          upd 1 (1, [.int .i64 k, .str nm, .int .i64 a, .int .i64 lo, .int .i64 hi, .slice (embL kids) (tokOf tk)]) (fun _ => (0, [])), 7, S⟩
        ⟨by simp [upd, embL], by simp [upd], by simp [upd], by simp [upd, depF], rfl⟩
      simp only at g3 g5
      subst g5
      have w1 : IntKind.i64.wrap 1 = 1 := wrap64 _ (by omega)
      simp (disch := first | (simp only [List.length_append, List.length_cons, List.length_nil]; omega) | (simp; done) | assumption) [AV.cells?, AV.isCell, ad0, ad1, ad2, ad3, cutC, bodyOf, Tryz.f142, E_esc, k24, c24, a24, sq22, bq3, hin, hr, g3, w1, X.dep, h4, depL]
end Go.Proofs.YtcpoinfdnimanaaGreatDoor.NF
/- ast's size, evaluated. No condition. -/
namespace Go.Proofs.YtcpoinfdnimanaaGreatDoor.NF
set_option linter.unusedVariables false
set_option linter.unusedSimpArgs false
open Go AE EX PT
set_option maxRecDepth 100000

noncomputable def szLoop : Code := cutC (bodyOf Tryz.f143) [1, 1, 0, 1, 0, 0]
noncomputable def sz0 : Code := cutC (bodyOf Tryz.f143) [0]
noncomputable def sz1 : Code := cutC (bodyOf Tryz.f143) [1, 0]
noncomputable def sz2 : Code := cutC (bodyOf Tryz.f143) [1, 1, 0, 0]
noncomputable def sz3 : Code := cutC (bodyOf Tryz.f143) [1, 1, 1]
theorem f58b : Tryz.f143.body = some (.seq sz0 (.seq sz1 (.seq (.seq sz2 (.block 0 (.loop szLoop))) sz3))) := rfl

def SZI (kids : List X) (tok : Tok) (S0 : St) (i : Nat) (fs : FS) : Prop :=
  fs.t 7 = .slice (embL kids) tok ∧ fs.t 8 = .int .i64 kids.length ∧ fs.t 9 = .int .i64 i ∧ fs.t 3 = .int .i64 (((nodesL (kids.take i)).length : Int) + 1) ∧ fs.S = S0

theorem sz_round (n : Nat) (kids : List X) (tok : Tok) (S0 : St) (hs : sizeL kids ≤ 1048576)
    (hrec : ∀ x ∈ kids, ∀ S, ev Tryz.prog E n 143 [x.emb] S = some (.ret (.int .i64 x.nodes.length), S)) (i : Nat) (hi : i < kids.length) (fs : FS) (h : SZI kids tok S0 i fs) :
    ∃ fs', evCode ⟨Tryz.prog, E.esc 143, n⟩ (ev Tryz.prog E n) (E.ps 143) n szLoop fs = some (.norm, fs') ∧ SZI kids tok S0 (i + 1) fs' := by
  obtain ⟨t, b, v, S⟩ := fs
  obtain ⟨h1, h2, h3, h4, h5⟩ := h
  simp only at h1 h2 h3 h4 h5
  subst h5
  have hlk := sizeL_length kids
  have hltz : (i : Int) < kids.length := by omega
  have hxe : kids[i]? = some kids[i] := List.getElem?_eq_getElem hi
  have hr := hrec kids[i] (List.getElem_mem hi) S
  have hsplit : kids.take (i + 1) = kids.take i ++ [kids[i]] := by rw [List.take_add_one, hxe]; rfl
  have hd : (nodesL (kids.take (i + 1))).length = (nodesL (kids.take i)).length + kids[i].nodes.length := by rw [hsplit, nodesL_append]; simp [nodesL]
  have hb1 := nodesL_size (kids.take (i + 1))
  have hb2 := take_size kids (i + 1)
  have hemb : (embL kids)[i]? = some kids[i].emb := by rw [embL_map, List.getElem?_map, hxe]; rfl
  have ha1 := cells_all kids[i]
  have hc1 := (cells_ok kids[i]).2
  have ht1 : List.take 6 kids[i].cells = kids[i].cells := List.take_of_length_le (by omega)
  rw [emb_cells] at hemb hr
  generalize kids[i].nodes.length = d at *
  generalize kids[i].cells = C1 at *
  generalize (nodesL (kids.take i)).length = e at *
  have hw : IntKind.i64.wrap ((i : Int) + 1) = (i : Int) + 1 := wrap64 _ (by omega)
  have hw2 : IntKind.i64.wrap ((e : Int) + 1 + d) = (e : Int) + 1 + d := wrap64 _ (by omega)
  obtain ⟨z, hz⟩ := ii24
  refine ⟨_, by
    simp (disch := first | (simp only [List.length_append, List.length_cons, List.length_nil]; omega) | (simp; done) | assumption) [AV.cells?, AV.isCell, szLoop, cutC, bodyOf, Tryz.f143, E_esc, h1, h2, h3, h4, k24, c24, a24, z24, i24, hz, sq22, bq3, hi, hltz, hemb, hr, ha1, hc1, ht1, hw2]
    rfl, by simp [upd, h1], by simp [upd, h2], by simp [upd, hw], by rw [hd]; simp [upd]; omega, rfl⟩

theorem sz_all (n : Nat) (kids : List X) (tok : Tok) (S : St) (hs : sizeL kids ≤ 1048576) (hl : kids.length < n)
    (hrec : ∀ x ∈ kids, ∀ S, ev Tryz.prog E n 143 [x.emb] S = some (.ret (.int .i64 x.nodes.length), S)) (fs : FS) (h : SZI kids tok S 0 fs) :
    ∃ fs', iter n (evCode ⟨Tryz.prog, E.esc 143, n⟩ (ev Tryz.prog E n) (E.ps 143) n szLoop) fs = some (.exit 0, fs') ∧ fs'.t 3 = .int .i64 (((nodesL kids).length : Int) + 1) ∧ fs'.S = S := by
  obtain ⟨⟨o, fs'⟩, r1, r2, r3⟩ := iter_range (Q := fun r => r.1 = .exit 0 ∧ SZI kids tok S kids.length r.2) (len := kids.length)
    (fun i hi fs h => sz_round n kids tok S hs hrec i hi fs h)
    (fun fs h => by
      obtain ⟨t, b, v, S'⟩ := fs
      obtain ⟨h1, h2, h3, h4, h5⟩ := h
      simp only at h1 h2 h3 h4 h5
      refine ⟨.exit 0, _, by
        simp (disch := first | (simp only [List.length_append, List.length_cons, List.length_nil]; omega) | (simp; done) | assumption) [AV.cells?, AV.isCell, szLoop, cutC, bodyOf, Tryz.f143, h1, h2, h3, bq3]
        rfl, by simp, rfl, by simp [upd, h1], by simp [upd, h2], by simp [upd, h3], by simp [upd, h4], h5⟩) kids.length 0 n fs (by omega) hl h
  simp only at r2
  subst r2
  obtain ⟨_, _, _, q4, q5⟩ := r3
  rw [List.take_length] at q4
  exact ⟨fs', r1, q4, q5⟩

theorem ev_aSize : ∀ (m : Nat) (x : X), x.size ≤ m → m ≤ 1048576 → ∀ n, m + 2 ≤ n → ∀ S, ev Tryz.prog E n 143 [x.emb] S = some (.ret (.int .i64 x.nodes.length), S)
  | 0, x, hm, _, _, _, _ => absurd hm (by have := size_pos x; omega)
  | m + 1, x, hm, hmm, n, hn, S => by
    obtain ⟨n, rfl⟩ : ∃ k, n = k + 2 := ⟨n - 2, by omega⟩
    have hds := nodes_size x
    obtain ⟨k, nm, a, lo, hi, tk, kids⟩ := x
    simp only [X.size] at hm hds
    have hl := sizeL_length kids
    have hin := ev_inner n k nm a lo hi tk kids S
    have hlen := embL_length kids
    simp only [X.emb] at hin ⊢
    rw [ev_enter (n := n + 1) (show E.ok 143 = true from rfl) Tryz.func143 f58b (Nat.le_of_ble_eq_true rfl) (by decide +kernel)]
    cases h4 : k == 4
    · rw [h4] at hin
      simp only [Bool.false_eq_true, if_false] at hin
      obtain ⟨⟨t, b, v, S'⟩, hr, g3, g5⟩ := sz_all (n + 1) kids (tokOf tk) S (by omega) (by omega) (fun x hx S => ev_aSize m x (by have := sizeL_mem hx; omega) (by omega) (n + 1) (by omega) S)
        ⟨upd 9 (.int .i64 0) (upd 8 (.int .i64 kids.length) (upd 7 (.slice (embL kids) (tokOf tk)) (upd 6 (.agg [.int .i64 k, .str nm, .int .i64 a, .int .i64 lo, .int .i64 hi, .slice (embL kids) (tokOf tk)]) (upd 3 (.int .i64 1) (upd 2 (.int .i64 0) (upd 1 (.loc (n + 1) 1 1 0) (argsA [.agg [.int .i64 k, .str nm, .int .i64 a, .int .i64 lo, .int .i64 hi, .slice (embL kids) (tokOf tk)]]))))))),
          upd 1 (1, [.int .i64 k, .str nm, .int .i64 a, .int .i64 lo, .int .i64 hi, .slice (embL kids) (tokOf tk)]) (fun _ => (0, [])), 7, S⟩
        ⟨by simp [upd], by simp [upd], by simp [upd], by simp [upd, nodesL], rfl⟩
      simp only at g3 g5
      subst g5
      simp (disch := first | (simp only [List.length_append, List.length_cons, List.length_nil]; omega) | (simp; done) | assumption) [AV.cells?, AV.isCell, sz0, sz1, sz2, sz3, cutC, bodyOf, Tryz.f143, E_esc, k24, c24, a24, sq22, bq3, hin, hlen, hr, g3, X.nodes, h4]
    · rw [h4] at hin
      simp only [if_true] at hin
      obtain ⟨⟨t, b, v, S'⟩, hr, g3, g5⟩ := sz_all (n + 1) [] .clip S (by simp [sizeL]) (by simp) (fun x hx S => by cases hx)
        ⟨upd 9 (.int .i64 0) (upd 8 (.int .i64 0) (upd 7 (.slice [] .clip) (upd 6 (.agg [.int .i64 k, .str nm, .int .i64 a, .int .i64 lo, .int .i64 hi, .slice (embL kids) (tokOf tk)]) (upd 3 (.int .i64 1) (upd 2 (.int .i64 0) (upd 1 (.loc (n + 1) 1 1 0) (argsA [.agg [.int .i64 k, .str nm, .int .i64 a, .int .i64 lo, .int .i64 hi, .slice (embL kids) (tokOf tk)]]))))))),
          upd 1 (1, [.int .i64 k, .str nm, .int .i64 a, .int .i64 lo, .int .i64 hi, .slice (embL kids) (tokOf tk)]) (fun _ => (0, [])), 7, S⟩
        ⟨by simp [upd, embL], by simp [upd], by simp [upd], by simp [upd, nodesL], rfl⟩
      simp only at g3 g5
      subst g5
      simp (disch := first | (simp only [List.length_append, List.length_cons, List.length_nil]; omega) | (simp; done) | assumption) [AV.cells?, AV.isCell, sz0, sz1, sz2, sz3, cutC, bodyOf, Tryz.f143, E_esc, k24, c24, a24, sq22, bq3, hin, hr, g3, X.nodes, h4, nodesL]
end Go.Proofs.YtcpoinfdnimanaaGreatDoor.NF
/- lex's names and texts, evaluated. No condition. -/
namespace Go.Proofs.YtcpoinfdnimanaaGreatDoor.NF
set_option linter.unusedVariables false
set_option linter.unusedSimpArgs false
open Go AE EX PT
set_option maxRecDepth 100000

def low5 (c : Int) : Int := IntKind.u8.wrap (BitVec.ofInt IntKind.u8.bits c ||| BitVec.ofInt IntKind.u8.bits 32).toNat
theorem evBin_or {bq : Bool} {a : Int} : evBin bq .or (.int .u8 a) (.int .u8 32) = some (.int .u8 (low5 a)) := by rw [evBin]; rfl
theorem letter256 : ∀ i : Fin 256, ((decide (97 ≤ low5 i.val) && decide (low5 i.val ≤ 122)) || ((i.val : Int) == 95)) = headB i.val := by decide +kernel
theorem letter_head (c : UInt8) : ((decide (97 ≤ low5 c.toNat) && decide (low5 c.toNat ≤ 122)) || ((c.toNat : Int) == 95)) = headB c.toNat := letter256 ⟨c.toNat, c.toNat_lt⟩

theorem ev_letter (n : Nat) (c : UInt8) (S : St) : ev Tryz.prog E (n + 1) 60 [.int .u8 (c.toNat : Int)] S = some (.ret (.bool (headB c.toNat)), S) := by
  rw [ev_enter (n := n) (show E.ok 60 = true from rfl) Tryz.func60 (fn := Tryz.f60) rfl (Nat.le_of_ble_eq_true rfl) (by decide +kernel)]
  rw [← letter_head]
  cases h1 : decide (97 ≤ low5 c.toNat) <;> cases h2 : decide (low5 c.toNat ≤ 122) <;> cases h3 : ((c.toNat : Int) == 95) <;>
    simp (disch := first | (simp only [List.length_append, List.length_cons, List.length_nil]; omega) | (simp; done) | assumption) [AV.cells?, AV.isCell, evBin_or, Tryz.f60, bq5, h1, h2, h3]

def digB (c : Int) : Bool := decide (48 ≤ c) && decide (c ≤ 57)
theorem ev_digit (n : Nat) (c : Int) (S : St) : ev Tryz.prog E (n + 1) 61 [.int .u8 c] S = some (.ret (.bool (digB c)), S) := by
  rw [ev_enter (n := n) (show E.ok 61 = true from rfl) Tryz.func61 (fn := Tryz.f61) rfl (Nat.le_of_ble_eq_true rfl) (by decide +kernel)]
  cases h1 : decide (48 ≤ c) <;> cases h2 : decide (c ≤ 57) <;>
    simp (disch := first | (simp only [List.length_append, List.length_cons, List.length_nil]; omega) | (simp; done) | assumption) [AV.cells?, AV.isCell, Tryz.f61, bq5, digB, h1, h2]

/-! ### names -/
noncomputable def nmLoop : Code := cutC (bodyOf Tryz.f24) [1, 0, 1, 0, 0]
noncomputable def nm0 : Code := cutC (bodyOf Tryz.f24) [0]
noncomputable def nm1 : Code := cutC (bodyOf Tryz.f24) [1, 0, 0]
noncomputable def nm2 : Code := cutC (bodyOf Tryz.f24) [1, 1]
theorem f79b : Tryz.f24.body = some (.seq nm0 (.seq (.seq nm1 (.block 0 (.loop nmLoop))) nm2)) := rfl

def nmOK (s : List UInt8) (j : Nat) : Prop := ∀ c, s[j]? = some c → (headB c.toNat || (j != 0 && digB c.toNat)) = true
def NMI (s : List UInt8) (S0 : St) (m : Nat) (fs : FS) : Prop :=
  ∃ i, i + m = s.length ∧ fs.t 0 = .str s ∧ fs.t 5 = .int .i64 s.length ∧ fs.t 6 = .int .i64 i ∧ fs.S = S0 ∧ ∀ j, j < i → nmOK s j
def NMQ (s : List UInt8) (S0 : St) (r : Out × FS) : Prop :=
  r.2.S = S0 ∧ ((r.1 = .exit 0 ∧ r.2.t 0 = .str s ∧ ∀ j, j < s.length → nmOK s j) ∨ (r.1 = .ret ∧ r.2.t 2 = .bool false ∧ ∃ j, ¬ nmOK s j))

theorem nm_round (n : Nat) (s : List UInt8) (S0 : St) (hs : s.length ≤ 1048576) (m : Nat) (fs : FS) (h : NMI s S0 m fs) :
    ∃ o fs', evCode ⟨Tryz.prog, E.esc 24, n + 1⟩ (ev Tryz.prog E (n + 1)) (E.ps 24) (n + 1) nmLoop fs = some (o, fs') ∧ ((o = .norm ∧ ∃ m', m' < m ∧ NMI s S0 m' fs') ∨ (o ≠ .norm ∧ NMQ s S0 (o, fs'))) := by
  obtain ⟨t, b, v, S⟩ := fs
  obtain ⟨i, hi, h1, h2, h3, h4, h5⟩ := h
  simp only at h1 h2 h3 h4
  subst h4
  cases m with
  | zero =>
    have hi : i = s.length := by omega
    subst hi
    refine ⟨.exit 0, _, by
      simp (disch := first | (simp only [List.length_append, List.length_cons, List.length_nil]; omega) | (simp; done) | assumption) [AV.cells?, AV.isCell, nmLoop, cutC, bodyOf, Tryz.f24, h1, h2, h3, bq3, sq9]
      rfl, .inr ⟨by simp, rfl, .inl ⟨rfl, by simp [upd, h1], h5⟩⟩⟩
  | succ m =>
    have hlt : i < s.length := by omega
    have hltz : (i : Int) < s.length := by omega
    have hxe : s[i]? = some s[i] := List.getElem?_eq_getElem hlt
    have hw : IntKind.i64.wrap ((i : Int) + 1) = (i : Int) + 1 := wrap64 _ (by omega)
    have hL := ev_letter n s[i] S
    have hD := ev_digit n (s[i].toNat : Int) S
    have hidx : evIndex Tryz.prog 9 (.str s) (.int .i64 (i : Int)) = some (.int .u8 (s[i].toNat : Int)) := by simp [evIndex, sq9, hlt]
    generalize s[i] = c at *
    have good : (headB c.toNat || (i != 0 && digB c.toNat)) = true → ∀ j, j < i + 1 → nmOK s j := fun hg j hj => by
      by_cases hji : j = i
      · subst hji; intro c' hc'; rw [hxe] at hc'; cases hc'; exact hg
      · exact h5 j (by omega)
    cases e1 : headB c.toNat
    · rw [e1] at hL
      cases e0 : ((i : Int) == 0)
      · have i0 : (i != 0) = true := by simp at e0; simp; omega
        cases e2 : digB c.toNat
        · rw [e2] at hD
          refine ⟨.ret, _, by
            simp (disch := first | (simp only [List.length_append, List.length_cons, List.length_nil]; omega) | (simp; done) | assumption) [AV.cells?, AV.isCell, -evIndex, nmLoop, cutC, bodyOf, Tryz.f24, h1, h2, h3, bq3, sq9, hidx, hlt, hltz, hL, hD, e0]
            rfl, .inr ⟨by simp, rfl, .inr ⟨rfl, by simp [upd], i, fun g => by have := g c hxe; rw [e1, e2, i0] at this; simp at this⟩⟩⟩
        · rw [e2] at hD
          refine ⟨.norm, _, by
            simp (disch := first | (simp only [List.length_append, List.length_cons, List.length_nil]; omega) | (simp; done) | assumption) [AV.cells?, AV.isCell, -evIndex, nmLoop, cutC, bodyOf, Tryz.f24, h1, h2, h3, bq3, sq9, hidx, hlt, hltz, hL, hD, e0]
            rfl, .inl ⟨rfl, m, by omega, i + 1, by omega, by simp [upd, h1], by simp [upd, h2], by simp [upd, hw], rfl, good (by rw [e1, e2, i0]; rfl)⟩⟩
      · have i0 : i = 0 := by simp at e0; omega
        refine ⟨.ret, _, by
          simp (disch := first | (simp only [List.length_append, List.length_cons, List.length_nil]; omega) | (simp; done) | assumption) [AV.cells?, AV.isCell, -evIndex, nmLoop, cutC, bodyOf, Tryz.f24, h1, h2, h3, bq3, sq9, hidx, hlt, hltz, hL, e0]
          rfl, .inr ⟨by simp, rfl, .inr ⟨rfl, by simp [upd], i, fun g => by have := g c hxe; rw [e1, i0] at this; simp at this⟩⟩⟩
    · rw [e1] at hL
      refine ⟨.norm, _, by
        simp (disch := first | (simp only [List.length_append, List.length_cons, List.length_nil]; omega) | (simp; done) | assumption) [AV.cells?, AV.isCell, -evIndex, nmLoop, cutC, bodyOf, Tryz.f24, h1, h2, h3, bq3, sq9, hidx, hlt, hltz, hL]
        rfl, .inl ⟨rfl, m, by omega, i + 1, by omega, by simp [upd, h1], by simp [upd, h2], by simp [upd, hw], rfl, good (by rw [e1]; rfl)⟩⟩

theorem tl_eq (c : UInt8) : tl c = (headB c.toNat || digB c.toNat) := rfl
theorem nmOK_all (c : UInt8) (r : List UInt8) : (∀ j, j < (c :: r).length → nmOK (c :: r) j) ↔ headB c.toNat = true ∧ r.all tl = true := by
  constructor
  · intro h
    refine ⟨by simpa using h 0 (by simp) c rfl, ?_⟩
    rw [List.all_eq_true]
    intro x hx
    obtain ⟨i, hi, rfl⟩ := List.getElem_of_mem hx
    have := h (i + 1) (by simpa using hi) r[i] (by simp)
    rw [tl_eq]
    simpa using this
  · intro ⟨h1, h2⟩ j hj c' hc'
    cases j with
    | zero => simp at hc'; subst hc'; simp [h1]
    | succ j =>
      simp at hc'
      have := List.all_eq_true.1 h2 c' (List.mem_of_getElem? hc')
      rw [tl_eq] at this
      simpa using this
theorem nameB_iff (s : List UInt8) : nameB s = true ↔ s ≠ [] ∧ s.length ≤ 16 ∧ ∀ j, j < s.length → nmOK s j := by
  cases s with
  | nil => simp [nameB]
  | cons c r =>
    rw [nmOK_all]
    simp [nameB, and_assoc]

theorem ev_lName (n : Nat) (s : List UInt8) (hs : s.length ≤ 1048576) (hn : s.length < n) (S : St) : ev Tryz.prog E (n + 2) 24 [.str s] S = some (.ret (.bool (nameB s)), S) := by
  rw [show n + 2 = (n + 1) + 1 from rfl, ev_enter (n := n + 1) (show E.ok 24 = true from rfl) Tryz.func24 f79b (Nat.le_of_ble_eq_true rfl) (by decide +kernel)]
  obtain ⟨⟨o, t, b, v, S'⟩, hr, hS, hq⟩ := iter_meas (fun m fs h => nm_round n s S hs m fs h) s.length (n + 1)
    ⟨upd 6 (.int .i64 0) (upd 5 (.int .i64 s.length) (upd 4 (.str s) (upd 2 (.bool false) (argsA [.str s])))), fun _ => (0, []), 4, S⟩ (by omega)
    ⟨0, by omega, by simp [upd, argsA], by simp [upd], by simp [upd], rfl, fun j hj => by omega⟩
  simp only at hS hq
  subst hS
  rcases hq with ⟨rfl, g0, ha⟩ | ⟨rfl, h2, j, hno⟩
  · cases e0 : (s == [])
    · have e0' : s ≠ [] := fun h => by subst h; simp at e0
      cases e1 : decide ((s.length : Int) ≤ 16)
      · have hp : nameB s = false := by
          rw [Bool.eq_false_iff]; intro h
          have := ((nameB_iff s).1 h).2.1
          simp at e1; omega
        have e1' : ¬ s.length ≤ 16 := by simp at e1; omega
        simp (disch := first | (simp only [List.length_append, List.length_cons, List.length_nil]; omega) | (simp; done) | assumption) [AV.cells?, AV.isCell, nm0, nm1, nm2, cutC, bodyOf, Tryz.f24, bq3, bq9, sq9, hr, g0, hp, bne, e0, e1, e1']
      · have e1' : s.length ≤ 16 := by simp at e1; omega
        have hp : nameB s = true := (nameB_iff s).2 ⟨e0', e1', ha⟩
        simp (disch := first | (simp only [List.length_append, List.length_cons, List.length_nil]; omega) | (simp; done) | assumption) [AV.cells?, AV.isCell, nm0, nm1, nm2, cutC, bodyOf, Tryz.f24, bq3, bq9, sq9, hr, g0, hp, bne, e0, e1, e1']
    · have e0' : s = [] := by simpa using e0
      have hp : nameB s = false := by rw [e0']; rfl
      simp (disch := first | (simp only [List.length_append, List.length_cons, List.length_nil]; omega) | (simp; done) | assumption) [AV.cells?, AV.isCell, nm0, nm1, nm2, cutC, bodyOf, Tryz.f24, bq3, bq9, sq9, hr, g0, hp, bne, e0]
  · have hp : nameB s = false := by
      rw [Bool.eq_false_iff]; intro h
      obtain ⟨_, _, h3⟩ := (nameB_iff s).1 h
      by_cases hj : j < s.length
      · exact hno (h3 j hj)
      · exact hno fun c hc => by rw [List.getElem?_eq_none (by omega)] at hc; cases hc
    simp (disch := first | (simp only [List.length_append, List.length_cons, List.length_nil]; omega) | (simp; done) | assumption) [AV.cells?, AV.isCell, nm0, nm1, nm2, cutC, bodyOf, Tryz.f24, bq3, bq9, sq9, hr, hp, h2]
end Go.Proofs.YtcpoinfdnimanaaGreatDoor.NF
/- lex.Plain, ast.Kids, ast.span, evaluated. No condition. -/
namespace Go.Proofs.YtcpoinfdnimanaaGreatDoor.NF
set_option linter.unusedVariables false
set_option linter.unusedSimpArgs false
open Go AE EX PT
set_option maxRecDepth 100000

theorem indexByte_lt0 : ∀ (l : List UInt8) (c : UInt8), decide (Lib.indexByte l c < 0) = l.all fun b => !(b == c)
  | [], c => by simp [Lib.indexByte]
  | b :: l, c => by
    have ih := indexByte_lt0 l c
    have hg := Lib.indexByte_ge l c
    cases e : (b == c)
    · have h1 : Lib.indexByte (b :: l) c = if Lib.indexByte l c = -1 then -1 else Lib.indexByte l c + 1 := by simp [Lib.indexByte, e]
      rw [h1, List.all_cons, e, ← ih]
      split
      · rename_i h
        simp [h]
      · simp; omega
    · simp [Lib.indexByte, e]

theorem badB_eq (c : UInt8) : badB c = ((c == 34) || (c == 10)) := by
  unfold badB
  congr 1
  · rw [Bool.eq_iff_iff]; simp only [beq_iff_eq]
    constructor
    · intro h; exact UInt8.toNat_inj.1 (by simp; omega)
    · intro h; subst h; rfl
  · rw [Bool.eq_iff_iff]; simp only [beq_iff_eq]
    constructor
    · intro h; exact UInt8.toNat_inj.1 (by simp; omega)
    · intro h; subst h; rfl
theorem plain_index (s : List UInt8) : (s.all fun c => !badB c) = (decide (Lib.indexByte s 34 < 0) && decide (Lib.indexByte s 10 < 0)) := by
  rw [indexByte_lt0, indexByte_lt0]
  induction s with
  | nil => rfl
  | cons c l ih =>
    rw [List.all_cons, List.all_cons, List.all_cons, ih, badB_eq, Bool.not_or]
    cases (!(c == 34)) <;> cases (!(c == 10)) <;> cases l.all (fun b => !(b == 34)) <;> cases l.all (fun b => !(b == 10)) <;> rfl

theorem ev_indexByte (n : Nat) (s : List UInt8) (c : Int) (S : St) : ev Tryz.prog E (n + 1) 114 [.str s, .int .u8 c] S = some (.ret (.int .i64 (Lib.indexByte s c.toNat.toUInt8)), S) := rfl

theorem ev_lPlain (n : Nat) (s : List UInt8) (S : St) : ev Tryz.prog E (n + 2) 139 [.str s] S = some (.ret (.bool (plainB s)), S) := by
  have h34 : ev Tryz.prog E (n + 1) 114 [.str s, .int .u8 34] S = some (.ret (.int .i64 (Lib.indexByte s 34)), S) := ev_indexByte n s 34 S
  have h10 : ev Tryz.prog E (n + 1) 114 [.str s, .int .u8 10] S = some (.ret (.int .i64 (Lib.indexByte s 10)), S) := ev_indexByte n s 10 S
  have hp : plainB s = (decide (s.length ≤ 32) && (decide (Lib.indexByte s 34 < 0) && decide (Lib.indexByte s 10 < 0))) := by rw [← plain_index]; rfl
  rw [hp, show n + 2 = (n + 1) + 1 from rfl, ev_enter (n := n + 1) (show E.ok 139 = true from rfl) Tryz.func139 (fn := Tryz.f139) rfl (Nat.le_of_ble_eq_true rfl) (by decide +kernel)]
  generalize Lib.indexByte s 34 = i34 at *
  generalize Lib.indexByte s 10 = i10 at *
  by_cases hs : s.length ≤ 32
  · have hz : (s.length : Int) ≤ 32 := by omega
    cases h2 : decide (i34 < 0) <;> cases h3 : decide (i10 < 0) <;>
      simp (disch := first | (simp only [List.length_append, List.length_cons, List.length_nil]; omega) | (simp; done) | assumption) [AV.cells?, AV.isCell, Tryz.f139, bq3, sq9, h34, h10, h2, h3, hs, hz]
  · have hz : ¬ (s.length : Int) ≤ 32 := by omega
    simp (disch := first | (simp only [List.length_append, List.length_cons, List.length_nil]; omega) | (simp; done) | assumption) [AV.cells?, AV.isCell, Tryz.f139, bq3, sq9, h34, h10, hs, hz]

theorem ev_aKids (n : Nat) (k : Int) (S : St) : ev Tryz.prog E (n + 1) 145 [.int .i64 k] S = some (.ret (.int .i64 (kidsI k)), S) := by
  rw [ev_enter (n := n) (show E.ok 145 = true from rfl) Tryz.func145 (fn := Tryz.f145) rfl (Nat.le_of_ble_eq_true rfl) (by decide +kernel)]
  by_cases hk : kinds k
  · rcases hk with rfl | rfl | rfl | rfl | rfl | rfl | rfl | rfl | rfl | rfl | rfl | rfl | rfl | rfl | rfl | rfl | rfl | rfl | rfl | rfl | rfl | rfl | rfl | rfl | rfl <;>
      simp (disch := first | (simp only [List.length_append, List.length_cons, List.length_nil]; omega) | (simp; done) | assumption) [AV.cells?, AV.isCell, Tryz.f145, bq3, kidsI]
  · have hk' := hk
    rw [kinds_iff] at hk'
    have q : ∀ j : Int, 1 ≤ j → j ≤ 25 → (k == j) = false := fun j h1 h2 => by simp; omega
    rw [kidsI_out hk]
    simp (disch := first | (simp only [List.length_append, List.length_cons, List.length_nil]; omega) | (simp; done) | assumption) [AV.cells?, AV.isCell, Tryz.f145, bq3, q 1 (by omega) (by omega), q 2 (by omega) (by omega), q 3 (by omega) (by omega), q 4 (by omega) (by omega), q 5 (by omega) (by omega), q 6 (by omega) (by omega), q 7 (by omega) (by omega), q 8 (by omega) (by omega), q 9 (by omega) (by omega), q 10 (by omega) (by omega), q 11 (by omega) (by omega), q 12 (by omega) (by omega), q 13 (by omega) (by omega), q 14 (by omega) (by omega), q 15 (by omega) (by omega), q 16 (by omega) (by omega), q 17 (by omega) (by omega), q 18 (by omega) (by omega), q 19 (by omega) (by omega), q 20 (by omega) (by omega), q 21 (by omega) (by omega), q 22 (by omega) (by omega), q 23 (by omega) (by omega), q 24 (by omega) (by omega), q 25 (by omega) (by omega)]

def spanB (lo hi : Int) : Bool := decide (0 ≤ lo) && (decide (lo ≤ hi) || hi == -1)
theorem spanB_iff (lo hi : Int) : spanB lo hi = true ↔ 0 ≤ lo ∧ (hi = -1 ∨ lo ≤ hi) := by
  simp [spanB]; omega
theorem ev_span (n : Nat) (k : Int) (nm : List UInt8) (a lo hi : Int) (ks : AV) (hks : ks.isCell = true) (S : St) :
    ev Tryz.prog E (n + 1) 172 [.agg [.int .i64 k, .str nm, .int .i64 a, .int .i64 lo, .int .i64 hi, ks]] S = some (.ret (.bool (spanB lo hi)), S) := by
  rw [ev_enter (n := n) (show E.ok 172 = true from rfl) Tryz.func172 (fn := Tryz.f172) rfl (Nat.le_of_ble_eq_true rfl) (by decide +kernel)]
  cases h1 : decide (0 ≤ lo) <;> cases h2 : decide (lo ≤ hi) <;> cases h3 : (hi == -1) <;>
    simp (disch := first | (simp only [List.length_append, List.length_cons, List.length_nil]; omega) | (simp; done) | assumption) [AV.cells?, AV.isCell, Tryz.f172, E_esc, k24, c24, a24, k2, c2, a2, fq3, fq4, bq2, hks, -AV.isCell, h1, h2, h3, spanB]
end Go.Proofs.YtcpoinfdnimanaaGreatDoor.NF
/- What an expression has of its own (ast), evaluated. No condition. -/
namespace Go.Proofs.YtcpoinfdnimanaaGreatDoor.NF
set_option linter.unusedVariables false
set_option linter.unusedSimpArgs false
open Go AE EX PT
set_option maxRecDepth 100000

def OwnOut (n : Nat) (k : Int) (nm : List UInt8) (a lo hi : Int) (ks : AV) (S : St) : Prop :=
  ∃ b, ev Tryz.prog E (n + 4) 163 [.agg [.int .i64 k, .str nm, .int .i64 a, .int .i64 lo, .int .i64 hi, ks]] S = some (.ret (.bool b), S) ∧ (b = true ↔ Fits k nm a lo hi)

set_option maxHeartbeats 4000000 in
theorem own_plain (n : Nat) (k : Int) (nm : List UInt8) (hl : nm.length ≤ 1048576) (hn : nm.length < n) (a lo hi : Int) (ks : AV) (hks : ks.isCell = true) (S : St)
    (hk : (k = 4 ∨ k = 7 ∨ k = 8 ∨ k = 9 ∨ k = 10 ∨ k = 11 ∨ k = 12 ∨ k = 14 ∨ k = 15 ∨ k = 16 ∨ k = 17 ∨ k = 18 ∨ k = 19 ∨ k = 20 ∨ k = 25)) : OwnOut n k nm a lo hi ks S := by
  unfold OwnOut
  have hps : E.ps 163 1 = [(1, 4), (1, 7), (4, 7), (1, 10), (4, 10), (7, 10)] := rfl
  have q1 : (k == 1) = false := by simp; omega
  have q2 : (k == 2) = false := by simp; omega
  have q3 : (k == 3) = false := by simp; omega
  have q13 : (k == 13) = false := by simp; omega
  have q5 : (k == 5) = false := by simp; omega
  have q6 : (k == 6) = false := by simp; omega
  have q21 : (k == 21) = false := by simp; omega
  have q22 : (k == 22) = false := by simp; omega
  have q23 : (k == 23) = false := by simp; omega
  have q24 : (k == 24) = false := by simp; omega
  rw [ev_enter (n := n + 3) (show E.ok 163 = true from rfl) Tryz.func163 (fn := Tryz.f163) rfl (Nat.le_of_ble_eq_true rfl) (by decide +kernel)]
  cases h0 : (nm == [])
  · refine ⟨false, ?_, iff_of_false (by simp) fun f => by have := f.none (by omega); subst this; simp at h0⟩
    simp (disch := first | (simp only [List.length_append, List.length_cons, List.length_nil]; omega) | (simp; done) | assumption) [AV.cells?, AV.isCell, Tryz.f163, E_esc, k24, c24, a24, k3, c3, a3, k2, c2, a2, k9, c9, a9, fq0, fq1, fq2, fq3, fq4, bq3, bq2, bq9, hks, -AV.isCell, hps, q1, q2, q3, q13, q5, q6, q21, q22, q23, q24, h0]
  cases h1 : (a == 0)
  · refine ⟨false, ?_, iff_of_false (by simp) fun f => by have := f.num (by omega) (by omega); subst this; simp at h1⟩
    simp (disch := first | (simp only [List.length_append, List.length_cons, List.length_nil]; omega) | (simp; done) | assumption) [AV.cells?, AV.isCell, Tryz.f163, E_esc, k24, c24, a24, k3, c3, a3, k2, c2, a2, k9, c9, a9, fq0, fq1, fq2, fq3, fq4, bq3, bq2, bq9, hks, -AV.isCell, hps, q1, q2, q3, q13, q5, q6, q21, q22, q23, q24, h0, h1]
  cases h2 : (lo == 0)
  · refine ⟨false, ?_, iff_of_false (by simp) fun f => by have := (f.zero (by omega)).1; subst this; simp at h2⟩
    simp (disch := first | (simp only [List.length_append, List.length_cons, List.length_nil]; omega) | (simp; done) | assumption) [AV.cells?, AV.isCell, Tryz.f163, E_esc, k24, c24, a24, k3, c3, a3, k2, c2, a2, k9, c9, a9, fq0, fq1, fq2, fq3, fq4, bq3, bq2, bq9, hks, -AV.isCell, hps, q1, q2, q3, q13, q5, q6, q21, q22, q23, q24, h0, h1, h2]
  refine ⟨hi == 0, ?_, fun h => ?_, fun f => by have := (f.zero (by omega)).2; simp [this]⟩
  · simp (disch := first | (simp only [List.length_append, List.length_cons, List.length_nil]; omega) | (simp; done) | assumption) [AV.cells?, AV.isCell, Tryz.f163, E_esc, k24, c24, a24, k3, c3, a3, k2, c2, a2, k9, c9, a9, fq0, fq1, fq2, fq3, fq4, bq3, bq2, bq9, hks, -AV.isCell, hps, q1, q2, q3, q13, q5, q6, q21, q22, q23, q24, h0, h1, h2]
  · have e1 : nm = [] := by simpa using h0
    have e2 : a = 0 := by simpa using h1
    have e3 : lo = 0 := by simpa using h2
    have e4 : hi = 0 := by simpa using h
    exact ⟨by omega, by omega, fun _ => e1, by omega, by omega, fun _ _ => e2, by omega, by omega, fun _ => ⟨e3, e4⟩⟩

set_option maxHeartbeats 4000000 in
theorem own_text (n : Nat) (k : Int) (nm : List UInt8) (hl : nm.length ≤ 1048576) (hn : nm.length < n) (a lo hi : Int) (ks : AV) (hks : ks.isCell = true) (S : St)
    (hk : k = 3) : OwnOut n k nm a lo hi ks S := by
  unfold OwnOut
  have hps : E.ps 163 1 = [(1, 4), (1, 7), (4, 7), (1, 10), (4, 10), (7, 10)] := rfl
  have hp : ev Tryz.prog E (n + 3) 139 [.str nm] S = some (.ret (.bool (plainB nm)), S) := ev_lPlain (n + 1) nm S
  rw [ev_enter (n := n + 3) (show E.ok 163 = true from rfl) Tryz.func163 (fn := Tryz.f163) rfl (Nat.le_of_ble_eq_true rfl) (by decide +kernel)]
  cases h0 : plainB nm
  · refine ⟨false, ?_, iff_of_false (by simp) fun f => by have := f.text (by omega); rw [h0] at this; cases this⟩
    rw [h0] at hp; subst hk; simp (disch := first | (simp only [List.length_append, List.length_cons, List.length_nil]; omega) | (simp; done) | assumption) [AV.cells?, AV.isCell, Tryz.f163, E_esc, k24, c24, a24, k3, c3, a3, k2, c2, a2, k9, c9, a9, fq0, fq1, fq2, fq3, fq4, bq3, bq2, bq9, hks, -AV.isCell, hps, h0, hp]
  rw [h0] at hp
  cases h1 : (a == 0)
  · refine ⟨false, ?_, iff_of_false (by simp) fun f => by have := f.num (by omega) (by omega); subst this; simp at h1⟩
    subst hk; simp (disch := first | (simp only [List.length_append, List.length_cons, List.length_nil]; omega) | (simp; done) | assumption) [AV.cells?, AV.isCell, Tryz.f163, E_esc, k24, c24, a24, k3, c3, a3, k2, c2, a2, k9, c9, a9, fq0, fq1, fq2, fq3, fq4, bq3, bq2, bq9, hks, -AV.isCell, hps, h0, hp, h1]
  cases h2 : (lo == 0)
  · refine ⟨false, ?_, iff_of_false (by simp) fun f => by have := (f.zero (by omega)).1; subst this; simp at h2⟩
    subst hk; simp (disch := first | (simp only [List.length_append, List.length_cons, List.length_nil]; omega) | (simp; done) | assumption) [AV.cells?, AV.isCell, Tryz.f163, E_esc, k24, c24, a24, k3, c3, a3, k2, c2, a2, k9, c9, a9, fq0, fq1, fq2, fq3, fq4, bq3, bq2, bq9, hks, -AV.isCell, hps, h0, hp, h1, h2]
  refine ⟨hi == 0, ?_, fun h => ?_, fun f => by have := (f.zero (by omega)).2; simp [this]⟩
  · subst hk; simp (disch := first | (simp only [List.length_append, List.length_cons, List.length_nil]; omega) | (simp; done) | assumption) [AV.cells?, AV.isCell, Tryz.f163, E_esc, k24, c24, a24, k3, c3, a3, k2, c2, a2, k9, c9, a9, fq0, fq1, fq2, fq3, fq4, bq3, bq2, bq9, hks, -AV.isCell, hps, h0, hp, h1, h2]
  · have e2 : a = 0 := by simpa using h1
    have e3 : lo = 0 := by simpa using h2
    have e4 : hi = 0 := by simpa using h
    exact ⟨fun _ => h0, by omega, fun hh => absurd (.inl hk) hh, by omega, by omega, fun _ _ => e2, by omega, by omega, fun _ => ⟨e3, e4⟩⟩

set_option maxHeartbeats 4000000 in
theorem own_named (n : Nat) (k : Int) (nm : List UInt8) (hl : nm.length ≤ 1048576) (hn : nm.length < n) (a lo hi : Int) (ks : AV) (hks : ks.isCell = true) (S : St)
    (hk : k = 5 ∨ k = 6 ∨ k = 21) : OwnOut n k nm a lo hi ks S := by
  unfold OwnOut
  have hps : E.ps 163 1 = [(1, 4), (1, 7), (4, 7), (1, 10), (4, 10), (7, 10)] := rfl
  have hp : ev Tryz.prog E (n + 3) 24 [.str nm] S = some (.ret (.bool (nameB nm)), S) := ev_lName (n + 1) nm hl (by omega) S
  rw [ev_enter (n := n + 3) (show E.ok 163 = true from rfl) Tryz.func163 (fn := Tryz.f163) rfl (Nat.le_of_ble_eq_true rfl) (by decide +kernel)]
  cases h0 : nameB nm
  · refine ⟨false, ?_, iff_of_false (by simp) fun f => by have := f.name (by omega); rw [h0] at this; cases this⟩
    rw [h0] at hp; rcases hk with rfl | rfl | rfl <;> simp (disch := first | (simp only [List.length_append, List.length_cons, List.length_nil]; omega) | (simp; done) | assumption) [AV.cells?, AV.isCell, Tryz.f163, E_esc, k24, c24, a24, k3, c3, a3, k2, c2, a2, k9, c9, a9, fq0, fq1, fq2, fq3, fq4, bq3, bq2, bq9, hks, -AV.isCell, hps, h0, hp]
  rw [h0] at hp
  cases h1 : (a == 0)
  · refine ⟨false, ?_, iff_of_false (by simp) fun f => by have := f.num (by omega) (by omega); subst this; simp at h1⟩
    rcases hk with rfl | rfl | rfl <;> simp (disch := first | (simp only [List.length_append, List.length_cons, List.length_nil]; omega) | (simp; done) | assumption) [AV.cells?, AV.isCell, Tryz.f163, E_esc, k24, c24, a24, k3, c3, a3, k2, c2, a2, k9, c9, a9, fq0, fq1, fq2, fq3, fq4, bq3, bq2, bq9, hks, -AV.isCell, hps, h0, hp, h1]
  cases h2 : (lo == 0)
  · refine ⟨false, ?_, iff_of_false (by simp) fun f => by have := (f.zero (by omega)).1; subst this; simp at h2⟩
    rcases hk with rfl | rfl | rfl <;> simp (disch := first | (simp only [List.length_append, List.length_cons, List.length_nil]; omega) | (simp; done) | assumption) [AV.cells?, AV.isCell, Tryz.f163, E_esc, k24, c24, a24, k3, c3, a3, k2, c2, a2, k9, c9, a9, fq0, fq1, fq2, fq3, fq4, bq3, bq2, bq9, hks, -AV.isCell, hps, h0, hp, h1, h2]
  refine ⟨hi == 0, ?_, fun h => ?_, fun f => by have := (f.zero (by omega)).2; simp [this]⟩
  · rcases hk with rfl | rfl | rfl <;> simp (disch := first | (simp only [List.length_append, List.length_cons, List.length_nil]; omega) | (simp; done) | assumption) [AV.cells?, AV.isCell, Tryz.f163, E_esc, k24, c24, a24, k3, c3, a3, k2, c2, a2, k9, c9, a9, fq0, fq1, fq2, fq3, fq4, bq3, bq2, bq9, hks, -AV.isCell, hps, h0, hp, h1, h2]
  · have e2 : a = 0 := by simpa using h1
    have e3 : lo = 0 := by simpa using h2
    have e4 : hi = 0 := by simpa using h
    exact ⟨by omega, fun _ => h0, by omega, by omega, by omega, fun _ _ => e2, by omega, by omega, fun _ => ⟨e3, e4⟩⟩

set_option maxHeartbeats 4000000 in
theorem own_times (n : Nat) (k : Int) (nm : List UInt8) (hl : nm.length ≤ 1048576) (hn : nm.length < n) (a lo hi : Int) (ks : AV) (hks : ks.isCell = true) (S : St)
    (hk : k = 13) : OwnOut n k nm a lo hi ks S := by
  unfold OwnOut
  have hps : E.ps 163 1 = [(1, 4), (1, 7), (4, 7), (1, 10), (4, 10), (7, 10)] := rfl
  have hp : ev Tryz.prog E (n + 3) 24 [.str nm] S = some (.ret (.bool (nameB nm)), S) := ev_lName (n + 1) nm hl (by omega) S
  rw [ev_enter (n := n + 3) (show E.ok 163 = true from rfl) Tryz.func163 (fn := Tryz.f163) rfl (Nat.le_of_ble_eq_true rfl) (by decide +kernel)]
  cases h0 : nameB nm
  · refine ⟨false, ?_, iff_of_false (by simp) fun f => by have := f.name (by omega); rw [h0] at this; cases this⟩
    rw [h0] at hp; subst hk; simp (disch := first | (simp only [List.length_append, List.length_cons, List.length_nil]; omega) | (simp; done) | assumption) [AV.cells?, AV.isCell, Tryz.f163, E_esc, k24, c24, a24, k3, c3, a3, k2, c2, a2, k9, c9, a9, fq0, fq1, fq2, fq3, fq4, bq3, bq2, bq9, hks, -AV.isCell, hps, h0, hp]
  rw [h0] at hp
  cases h1 : (a == 0)
  · refine ⟨false, ?_, iff_of_false (by simp) fun f => by have := f.num (by omega) (by omega); subst this; simp at h1⟩
    subst hk; simp (disch := first | (simp only [List.length_append, List.length_cons, List.length_nil]; omega) | (simp; done) | assumption) [AV.cells?, AV.isCell, Tryz.f163, E_esc, k24, c24, a24, k3, c3, a3, k2, c2, a2, k9, c9, a9, fq0, fq1, fq2, fq3, fq4, bq3, bq2, bq9, hks, -AV.isCell, hps, h0, hp, h1]
  cases h2 : (lo == 0)
  · refine ⟨false, ?_, iff_of_false (by simp) fun f => by have := (f.times hk).1; subst this; simp at h2⟩
    subst hk; simp (disch := first | (simp only [List.length_append, List.length_cons, List.length_nil]; omega) | (simp; done) | assumption) [AV.cells?, AV.isCell, Tryz.f163, E_esc, k24, c24, a24, k3, c3, a3, k2, c2, a2, k9, c9, a9, fq0, fq1, fq2, fq3, fq4, bq3, bq2, bq9, hks, -AV.isCell, hps, h0, hp, h1, h2]
  refine ⟨decide (0 ≤ hi), ?_, fun h => ?_, fun f => by have := (f.times hk).2; simp [this]⟩
  · subst hk; simp (disch := first | (simp only [List.length_append, List.length_cons, List.length_nil]; omega) | (simp; done) | assumption) [AV.cells?, AV.isCell, Tryz.f163, E_esc, k24, c24, a24, k3, c3, a3, k2, c2, a2, k9, c9, a9, fq0, fq1, fq2, fq3, fq4, bq3, bq2, bq9, hks, -AV.isCell, hps, h0, hp, h1, h2]
  · have e2 : a = 0 := by simpa using h1
    have e3 : lo = 0 := by simpa using h2
    have e4 : 0 ≤ hi := by simpa using h
    exact ⟨by omega, fun _ => h0, by omega, by omega, by omega, fun _ _ => e2, by omega, fun _ => ⟨e3, e4⟩, by omega⟩

set_option maxHeartbeats 4000000 in
theorem own_int (n : Nat) (k : Int) (nm : List UInt8) (hl : nm.length ≤ 1048576) (hn : nm.length < n) (a lo hi : Int) (ks : AV) (hks : ks.isCell = true) (S : St)
    (hk : k = 1) : OwnOut n k nm a lo hi ks S := by
  unfold OwnOut
  have hps : E.ps 163 1 = [(1, 4), (1, 7), (4, 7), (1, 10), (4, 10), (7, 10)] := rfl
  rw [ev_enter (n := n + 3) (show E.ok 163 = true from rfl) Tryz.func163 (fn := Tryz.f163) rfl (Nat.le_of_ble_eq_true rfl) (by decide +kernel)]
  cases h0 : (nm == [])
  · refine ⟨false, ?_, iff_of_false (by simp) fun f => by have := f.none (by omega); subst this; simp at h0⟩
    subst hk; simp (disch := first | (simp only [List.length_append, List.length_cons, List.length_nil]; omega) | (simp; done) | assumption) [AV.cells?, AV.isCell, Tryz.f163, E_esc, k24, c24, a24, k3, c3, a3, k2, c2, a2, k9, c9, a9, fq0, fq1, fq2, fq3, fq4, bq3, bq2, bq9, hks, -AV.isCell, hps, h0]
  cases h1 : decide (0 ≤ a)
  · refine ⟨false, ?_, iff_of_false (by simp) fun f => by have := f.int (by omega); simp at h1; omega⟩
    subst hk; simp (disch := first | (simp only [List.length_append, List.length_cons, List.length_nil]; omega) | (simp; done) | assumption) [AV.cells?, AV.isCell, Tryz.f163, E_esc, k24, c24, a24, k3, c3, a3, k2, c2, a2, k9, c9, a9, fq0, fq1, fq2, fq3, fq4, bq3, bq2, bq9, hks, -AV.isCell, hps, h0, h1]
  cases h2 : (lo == 0)
  · refine ⟨false, ?_, iff_of_false (by simp) fun f => by have := (f.zero (by omega)).1; subst this; simp at h2⟩
    subst hk; simp (disch := first | (simp only [List.length_append, List.length_cons, List.length_nil]; omega) | (simp; done) | assumption) [AV.cells?, AV.isCell, Tryz.f163, E_esc, k24, c24, a24, k3, c3, a3, k2, c2, a2, k9, c9, a9, fq0, fq1, fq2, fq3, fq4, bq3, bq2, bq9, hks, -AV.isCell, hps, h0, h1, h2]
  refine ⟨hi == 0, ?_, fun h => ?_, fun f => by have := (f.zero (by omega)).2; simp [this]⟩
  · subst hk; simp (disch := first | (simp only [List.length_append, List.length_cons, List.length_nil]; omega) | (simp; done) | assumption) [AV.cells?, AV.isCell, Tryz.f163, E_esc, k24, c24, a24, k3, c3, a3, k2, c2, a2, k9, c9, a9, fq0, fq1, fq2, fq3, fq4, bq3, bq2, bq9, hks, -AV.isCell, hps, h0, h1, h2]
  · have e1 : nm = [] := by simpa using h0
    have e2 : 0 ≤ a := by simpa using h1
    have e3 : lo = 0 := by simpa using h2
    have e4 : hi = 0 := by simpa using h
    exact ⟨by omega, by omega, fun _ => e1, fun _ => e2, by omega, by omega, by omega, by omega, fun _ => ⟨e3, e4⟩⟩

set_option maxHeartbeats 4000000 in
theorem own_span (n : Nat) (k : Int) (nm : List UInt8) (hl : nm.length ≤ 1048576) (hn : nm.length < n) (a lo hi : Int) (ks : AV) (hks : ks.isCell = true) (S : St)
    (hk : k = 22 ∨ k = 23 ∨ k = 24) : OwnOut n k nm a lo hi ks S := by
  unfold OwnOut
  have hps : E.ps 163 1 = [(1, 4), (1, 7), (4, 7), (1, 10), (4, 10), (7, 10)] := rfl
  have hp : ev Tryz.prog E (n + 3) 172 [.agg [.int .i64 k, .str nm, .int .i64 a, .int .i64 lo, .int .i64 hi, ks]] S = some (.ret (.bool (spanB lo hi)), S) := ev_span (n + 2) k nm a lo hi ks hks S
  rw [ev_enter (n := n + 3) (show E.ok 163 = true from rfl) Tryz.func163 (fn := Tryz.f163) rfl (Nat.le_of_ble_eq_true rfl) (by decide +kernel)]
  cases h0 : (nm == [])
  · refine ⟨false, ?_, iff_of_false (by simp) fun f => by have := f.none (by omega); subst this; simp at h0⟩
    rcases hk with rfl | rfl | rfl <;> simp (disch := first | (simp only [List.length_append, List.length_cons, List.length_nil]; omega) | (simp; done) | assumption) [AV.cells?, AV.isCell, Tryz.f163, E_esc, k24, c24, a24, k3, c3, a3, k2, c2, a2, k9, c9, a9, fq0, fq1, fq2, fq3, fq4, bq3, bq2, bq9, hks, -AV.isCell, hps, hp, h0]
  cases h1 : (a == 0)
  · refine ⟨false, ?_, iff_of_false (by simp) fun f => by have := f.num (by omega) (by omega); subst this; simp at h1⟩
    rcases hk with rfl | rfl | rfl <;> simp (disch := first | (simp only [List.length_append, List.length_cons, List.length_nil]; omega) | (simp; done) | assumption) [AV.cells?, AV.isCell, Tryz.f163, E_esc, k24, c24, a24, k3, c3, a3, k2, c2, a2, k9, c9, a9, fq0, fq1, fq2, fq3, fq4, bq3, bq2, bq9, hks, -AV.isCell, hps, hp, h0, h1]
  refine ⟨spanB lo hi, ?_, fun h => ?_, fun f => by exact (spanB_iff lo hi).2 (f.span hk)⟩
  · cases h2 : spanB lo hi <;> rw [h2] at hp <;> rcases hk with rfl | rfl | rfl <;> simp (disch := first | (simp only [List.length_append, List.length_cons, List.length_nil]; omega) | (simp; done) | assumption) [AV.cells?, AV.isCell, Tryz.f163, E_esc, k24, c24, a24, k3, c3, a3, k2, c2, a2, k9, c9, a9, fq0, fq1, fq2, fq3, fq4, bq3, bq2, bq9, hks, -AV.isCell, hps, hp, h0, h1]
  · have e1 : nm = [] := by simpa using h0
    have e2 : a = 0 := by simpa using h1
    exact ⟨by omega, by omega, fun _ => e1, by omega, by omega, fun _ _ => e2, fun _ => (spanB_iff lo hi).1 h, by omega, by omega⟩

set_option maxHeartbeats 4000000 in
theorem own_bool (n : Nat) (k : Int) (nm : List UInt8) (hl : nm.length ≤ 1048576) (hn : nm.length < n) (a lo hi : Int) (ks : AV) (hks : ks.isCell = true) (S : St)
    (hk : k = 2) : OwnOut n k nm a lo hi ks S := by
  unfold OwnOut
  have hps : E.ps 163 1 = [(1, 4), (1, 7), (4, 7), (1, 10), (4, 10), (7, 10)] := rfl
  subst hk
  rw [ev_enter (n := n + 3) (show E.ok 163 = true from rfl) Tryz.func163 (fn := Tryz.f163) rfl (Nat.le_of_ble_eq_true rfl) (by decide +kernel)]
  by_cases hA : a = 0 ∨ a = 1
  · cases h0 : (nm == [])
    · refine ⟨false, ?_, iff_of_false (by simp) fun f => by have := f.none (by omega); subst this; simp at h0⟩
      rcases hA with rfl | rfl <;> simp (disch := first | (simp only [List.length_append, List.length_cons, List.length_nil]; omega) | (simp; done) | assumption) [AV.cells?, AV.isCell, Tryz.f163, E_esc, k24, c24, a24, k3, c3, a3, k2, c2, a2, k9, c9, a9, fq0, fq1, fq2, fq3, fq4, bq3, bq2, bq9, hks, -AV.isCell, hps, h0]
    cases h2 : (lo == 0)
    · refine ⟨false, ?_, iff_of_false (by simp) fun f => by have := (f.zero (by omega)).1; subst this; simp at h2⟩
      rcases hA with rfl | rfl <;> simp (disch := first | (simp only [List.length_append, List.length_cons, List.length_nil]; omega) | (simp; done) | assumption) [AV.cells?, AV.isCell, Tryz.f163, E_esc, k24, c24, a24, k3, c3, a3, k2, c2, a2, k9, c9, a9, fq0, fq1, fq2, fq3, fq4, bq3, bq2, bq9, hks, -AV.isCell, hps, h0, h2]
    refine ⟨hi == 0, ?_, fun h => ?_, fun f => by have := (f.zero (by omega)).2; simp [this]⟩
    · rcases hA with rfl | rfl <;> simp (disch := first | (simp only [List.length_append, List.length_cons, List.length_nil]; omega) | (simp; done) | assumption) [AV.cells?, AV.isCell, Tryz.f163, E_esc, k24, c24, a24, k3, c3, a3, k2, c2, a2, k9, c9, a9, fq0, fq1, fq2, fq3, fq4, bq3, bq2, bq9, hks, -AV.isCell, hps, h0, h2]
    · have e1 : nm = [] := by simpa using h0
      have e3 : lo = 0 := by simpa using h2
      have e4 : hi = 0 := by simpa using h
      exact ⟨by omega, by omega, fun _ => e1, by omega, fun _ => hA, by omega, by omega, by omega, fun _ => ⟨e3, e4⟩⟩
  · refine ⟨false, ?_, iff_of_false (by simp) fun f => by have := f.bool (by omega); omega⟩
    have g0 : (a == 0) = false := by simp; omega
    have g1 : (a == 1) = false := by simp; omega
    cases h0 : (nm == []) <;> simp (disch := first | (simp only [List.length_append, List.length_cons, List.length_nil]; omega) | (simp; done) | assumption) [AV.cells?, AV.isCell, Tryz.f163, E_esc, k24, c24, a24, k3, c3, a3, k2, c2, a2, k9, c9, a9, fq0, fq1, fq2, fq3, fq4, bq3, bq2, bq9, hks, -AV.isCell, hps, h0, g0, g1]

theorem ev_own (n : Nat) (k : Int) (nm : List UInt8) (hl : nm.length ≤ 1048576) (hn : nm.length + 5 ≤ n) (a lo hi : Int) (ks : AV) (hks : ks.isCell = true) (hk : kinds k) (S : St) :
    ∃ b, ev Tryz.prog E n 163 [.agg [.int .i64 k, .str nm, .int .i64 a, .int .i64 lo, .int .i64 hi, ks]] S = some (.ret (.bool b), S) ∧ (b = true ↔ Fits k nm a lo hi) := by
  obtain ⟨n, rfl⟩ : ∃ m, n = m + 4 := ⟨n - 4, by omega⟩
  have hk' := (kinds_iff k).1 hk
  by_cases c1 : k = 1
  · exact own_int n k nm hl (by omega) a lo hi ks hks S c1
  by_cases c2 : k = 2
  · exact own_bool n k nm hl (by omega) a lo hi ks hks S c2
  by_cases c3 : k = 3
  · exact own_text n k nm hl (by omega) a lo hi ks hks S c3
  by_cases c4 : k = 5 ∨ k = 6 ∨ k = 21
  · exact own_named n k nm hl (by omega) a lo hi ks hks S c4
  by_cases c5 : k = 13
  · exact own_times n k nm hl (by omega) a lo hi ks hks S c5
  by_cases c6 : k = 22 ∨ k = 23 ∨ k = 24
  · exact own_span n k nm hl (by omega) a lo hi ks hks S c6
  exact own_plain n k nm hl (by omega) a lo hi ks hks S (by omega)
end Go.Proofs.YtcpoinfdnimanaaGreatDoor.NF
/- slices.ContainsFunc; sets of texts (ast), evaluated. No condition. -/
namespace Go.Proofs.YtcpoinfdnimanaaGreatDoor.NF
set_option linter.unusedVariables false
set_option linter.unusedSimpArgs false
open Go AE EX PT
set_option maxRecDepth 100000

/-! ### slices.IndexFunc -/
noncomputable def ifLoop : Code := cutC (bodyOf Tryz.f166) [1, 0, 1, 0, 0]
noncomputable def if0 : Code := cutC (bodyOf Tryz.f166) [0]
noncomputable def if1 : Code := cutC (bodyOf Tryz.f166) [1, 0, 0]
noncomputable def if2 : Code := cutC (bodyOf Tryz.f166) [1, 1]
theorem f81b : Tryz.f166.body = some (.seq if0 (.seq (.seq if1 (.block 0 (.loop ifLoop))) if2)) := rfl

def IFI (kids : List X) (tok : Tok) (f : Nat) (p : X → Prop) (S0 : St) (m : Nat) (fs : FS) : Prop :=
  ∃ i, i + m = kids.length ∧ fs.t 0 = .slice (embL kids) tok ∧ fs.t 1 = .fn f [] [] ∧ fs.t 7 = .int .i64 kids.length ∧ fs.t 8 = .int .i64 i ∧ fs.S = S0 ∧ ∀ j x, j < i → kids[j]? = some x → ¬ p x
def IFQ (kids : List X) (p : X → Prop) (S0 : St) (r : Out × FS) : Prop :=
  r.2.S = S0 ∧ ((r.1 = .exit 0 ∧ ∀ x ∈ kids, ¬ p x) ∨ (r.1 = .ret ∧ (∃ i : Nat, r.2.t 4 = .int .i64 i) ∧ ∃ x ∈ kids, p x))

theorem if_round (n : Nat) (kids : List X) (tok : Tok) (f : Nat) (p : X → Prop) (S0 : St) (hs : kids.length ≤ 1048576)
    (hrec : ∀ x ∈ kids, ∀ S, ∃ b, ev Tryz.prog E n f [x.emb] S = some (.ret (.bool b), S) ∧ (b = true ↔ p x)) (m : Nat) (fs : FS) (h : IFI kids tok f p S0 m fs) :
    ∃ o fs', evCode ⟨Tryz.prog, E.esc 166, n⟩ (ev Tryz.prog E n) (E.ps 166) n ifLoop fs = some (o, fs') ∧ ((o = .norm ∧ ∃ m', m' < m ∧ IFI kids tok f p S0 m' fs') ∨ (o ≠ .norm ∧ IFQ kids p S0 (o, fs'))) := by
  obtain ⟨t, b, v, S⟩ := fs
  obtain ⟨i, hi, h0, h1, h2, h3, h4, h5⟩ := h
  simp only at h0 h1 h2 h3 h4
  subst h4
  have hlen := embL_length kids
  cases m with
  | zero =>
    have hi : i = kids.length := by omega
    subst hi
    refine ⟨.exit 0, _, by
      simp (disch := first | (simp only [List.length_append, List.length_cons, List.length_nil]; omega) | (simp; done) | assumption) [AV.cells?, AV.isCell, ifLoop, cutC, bodyOf, Tryz.f166, h0, h1, h2, h3, bq3]
      rfl, .inr ⟨by simp, rfl, .inl ⟨rfl, fun x hx => by
        obtain ⟨j, hj, rfl⟩ := List.getElem_of_mem hx
        exact h5 j _ hj (List.getElem?_eq_getElem hj)⟩⟩⟩
  | succ m =>
    have hlt : i < kids.length := by omega
    have hltz : (i : Int) < kids.length := by omega
    have hxe : kids[i]? = some kids[i] := List.getElem?_eq_getElem hlt
    have hxm : kids[i] ∈ kids := List.getElem_mem hlt
    obtain ⟨b', hr, hb⟩ := hrec kids[i] hxm S
    have hemb : (embL kids)[i]? = some kids[i].emb := by rw [embL_map, List.getElem?_map, hxe]; rfl
    have ha1 := cells_all kids[i]
    have hc1 := (cells_ok kids[i]).2
    have ht1 : List.take 6 kids[i].cells = kids[i].cells := List.take_of_length_le (by omega)
    have hw : IntKind.i64.wrap ((i : Int) + 1) = (i : Int) + 1 := wrap64 _ (by omega)
    rw [emb_cells] at hemb hr
    generalize kids[i] = x at *
    generalize x.cells = C1 at *
    obtain ⟨z, hz⟩ := ii24
    cases b'
    · refine ⟨.norm, _, by
        simp (disch := first | (simp only [List.length_append, List.length_cons, List.length_nil]; omega) | (simp; done) | assumption) [AV.cells?, AV.isCell, ifLoop, cutC, bodyOf, Tryz.f166, h0, h1, h2, h3, bq3, k24, c24, a24, i24, hz, sq22, hlen, hlt, hltz, hemb, hr, ha1, hc1, ht1]
        rfl, .inl ⟨rfl, m, by omega, i + 1, by omega, by simp [upd, h0], by simp [upd, h1], by simp [upd, h2], by simp [upd, hw], rfl, fun j y hj hy => by
          by_cases hji : j = i
          · subst hji; rw [hxe] at hy; cases hy; exact fun hp => by have := hb.2 hp; cases this
          · exact h5 j y (by omega) hy⟩⟩
    · refine ⟨.ret, _, by
        simp (disch := first | (simp only [List.length_append, List.length_cons, List.length_nil]; omega) | (simp; done) | assumption) [AV.cells?, AV.isCell, ifLoop, cutC, bodyOf, Tryz.f166, h0, h1, h2, h3, bq3, k24, c24, a24, i24, hz, sq22, hlen, hlt, hltz, hemb, hr, ha1, hc1, ht1]
        rfl, .inr ⟨by simp, rfl, .inr ⟨rfl, ⟨i, by simp [upd]⟩, x, hxm, hb.1 rfl⟩⟩⟩

theorem ev_IndexFunc (n : Nat) (kids : List X) (tok : Tok) (f : Nat) (p : X → Prop) (S : St) (hs : kids.length ≤ 1048576) (hn : kids.length < n)
    (hrec : ∀ x ∈ kids, ∀ S, ∃ b, ev Tryz.prog E n f [x.emb] S = some (.ret (.bool b), S) ∧ (b = true ↔ p x)) :
    ∃ r : Int, ev Tryz.prog E (n + 1) 166 [.slice (embL kids) tok, .fn f [] []] S = some (.ret (.int .i64 r), S) ∧ (0 ≤ r ↔ ∃ x ∈ kids, p x) := by
  have hlen := embL_length kids
  rw [ev_enter (n := n) (show E.ok 166 = true from rfl) Tryz.func166 f81b (Nat.le_of_ble_eq_true rfl) (by decide +kernel)]
  obtain ⟨⟨o, t, b, v, S'⟩, hr, hS, hq⟩ := iter_meas (fun m fs h => if_round n kids tok f p S hs hrec m fs h) kids.length n
    ⟨upd 8 (.int .i64 0) (upd 7 (.int .i64 kids.length) (upd 6 (.slice (embL kids) tok) (upd 4 (.int .i64 0) (argsA [.slice (embL kids) tok, .fn f [] []])))), fun _ => (0, []), 4, S⟩ hn
    ⟨0, by omega, by simp [upd, argsA], by simp [upd, argsA], by simp [upd], by simp [upd], rfl, fun j x hj => by omega⟩
  simp only at hS hq
  subst hS
  rcases hq with ⟨rfl, ha⟩ | ⟨rfl, ⟨i, h2⟩, hex⟩
  · refine ⟨-1, ?_, by simp; exact ha⟩
    simp (disch := first | (simp only [List.length_append, List.length_cons, List.length_nil]; omega) | (simp; done) | assumption) [AV.cells?, AV.isCell, if0, if1, if2, cutC, bodyOf, Tryz.f166, sq22, hlen, hr]
  · refine ⟨i, ?_, iff_of_true (by omega) hex⟩
    simp (disch := first | (simp only [List.length_append, List.length_cons, List.length_nil]; omega) | (simp; done) | assumption) [AV.cells?, AV.isCell, if0, if1, if2, cutC, bodyOf, Tryz.f166, sq22, hlen, hr, h2]

theorem ev_Contains (n : Nat) (kids : List X) (tok : Tok) (f : Nat) (p : X → Prop) (S : St) (hs : kids.length ≤ 1048576) (hn : kids.length < n)
    (hrec : ∀ x ∈ kids, ∀ S, ∃ b, ev Tryz.prog E n f [x.emb] S = some (.ret (.bool b), S) ∧ (b = true ↔ p x)) :
    ∃ b, ev Tryz.prog E (n + 2) 149 [.slice (embL kids) tok, .fn f [] []] S = some (.ret (.bool b), S) ∧ (b = true ↔ ∃ x ∈ kids, p x) := by
  obtain ⟨r, hr, hb⟩ := ev_IndexFunc n kids tok f p S hs hn hrec
  rw [show n + 2 = (n + 1) + 1 from rfl, ev_enter (n := n + 1) (show E.ok 149 = true from rfl) Tryz.func149 (fn := Tryz.f149) rfl (Nat.le_of_ble_eq_true rfl) (by decide +kernel)]
  refine ⟨decide (0 ≤ r), ?_, by simpa using hb⟩
  simp (disch := first | (simp only [List.length_append, List.length_cons, List.length_nil]; omega) | (simp; done) | assumption) [AV.cells?, AV.isCell, Tryz.f149, bq3, hr]

/-! ### a set's texts -/
/-- it may be, and all below it -/
def MayAll (x : X) : Prop := ∀ y ∈ x.nodes, PT.Good y
theorem may_text (nm : List UInt8) (a lo hi : Int) (tk : Bool) (ks : List X) : MayAll (.mk 3 nm a lo hi tk ks) ↔ ks = [] ∧ a = 0 ∧ lo = 0 ∧ hi = 0 ∧ plainB nm = true := by
  constructor
  · intro h
    obtain ⟨_, g2, _, g4⟩ := h _ (List.mem_cons_self ..)
    have g2 := g2 (by decide)
    rw [show kidsI 3 = 0 from by decide] at g2
    exact ⟨List.eq_nil_of_length_eq_zero (by omega), g4.num (by decide) (by decide), (g4.zero (by decide)).1, (g4.zero (by decide)).2, g4.text rfl⟩
  · rintro ⟨rfl, rfl, rfl, rfl, hp⟩ y hy
    simp [X.nodes, nodesL] at hy
    subst hy
    exact ⟨by simp [kinds], fun _ => by decide, fun h => by simp at h, fun _ => hp, by omega, by omega, by omega, by omega, by omega, by omega, by omega, by omega⟩

noncomputable def txLoop : Code := cutC (bodyOf Tryz.f164) [1, 0, 1, 0, 0]
noncomputable def tx0 : Code := cutC (bodyOf Tryz.f164) [0]
noncomputable def tx1 : Code := cutC (bodyOf Tryz.f164) [1, 0, 0]
noncomputable def tx2 : Code := cutC (bodyOf Tryz.f164) [1, 1]
theorem f71b : Tryz.f164.body = some (.seq tx0 (.seq (.seq tx1 (.block 0 (.loop txLoop))) tx2)) := rfl

def TXI (kids : List X) (tok : Tok) (S0 : St) (m : Nat) (fs : FS) : Prop :=
  ∃ i, i + m = kids.length ∧ fs.t 0 = .slice (embL kids) tok ∧ fs.t 5 = .slice (embL kids) tok ∧ fs.t 6 = .int .i64 kids.length ∧ fs.t 7 = .int .i64 i ∧ fs.S = S0 ∧ ∀ j, j < i → kidOK kids j
def TXQ (kids : List X) (tok : Tok) (S0 : St) (r : Out × FS) : Prop :=
  r.2.S = S0 ∧ ((r.1 = .exit 0 ∧ r.2.t 0 = .slice (embL kids) tok ∧ ∀ j, j < kids.length → kidOK kids j) ∨ (r.1 = .ret ∧ r.2.t 2 = .bool false ∧ ∃ j, j < kids.length ∧ ¬ kidOK kids j))

set_option maxHeartbeats 4000000 in
theorem tx_round (n : Nat) (kids : List X) (tok : Tok) (S0 : St) (hs : kids.length ≤ 1048576)
    (hrec : ∀ x ∈ kids, ∀ S, ∃ b, ev Tryz.prog E n 144 [x.emb] S = some (.ret (.bool b), S) ∧ (b = true ↔ MayAll x)) (m : Nat) (fs : FS) (h : TXI kids tok S0 m fs) :
    ∃ o fs', evCode ⟨Tryz.prog, E.esc 164, n⟩ (ev Tryz.prog E n) (E.ps 164) n txLoop fs = some (o, fs') ∧ ((o = .norm ∧ ∃ m', m' < m ∧ TXI kids tok S0 m' fs') ∨ (o ≠ .norm ∧ TXQ kids tok S0 (o, fs'))) := by
  obtain ⟨t, b, v, S⟩ := fs
  obtain ⟨i, hi, h0, h1, h2, h3, h4, h5⟩ := h
  simp only at h0 h1 h2 h3 h4
  subst h4
  have hlen := embL_length kids
  cases m with
  | zero =>
    have hi : i = kids.length := by omega
    subst hi
    refine ⟨.exit 0, _, by
      simp (disch := first | (simp only [List.length_append, List.length_cons, List.length_nil]; omega) | (simp; done) | assumption) [AV.cells?, AV.isCell, txLoop, cutC, bodyOf, Tryz.f164, h0, h1, h2, h3, bq3]
      rfl, .inr ⟨by simp, rfl, .inl ⟨rfl, by simp [upd, h0], h5⟩⟩⟩
  | succ m =>
    have hlt : i < kids.length := by omega
    have hltz : (i : Int) < kids.length := by omega
    have hxe : kids[i]? = some kids[i] := List.getElem?_eq_getElem hlt
    have hxm : kids[i] ∈ kids := List.getElem_mem hlt
    obtain ⟨b', hr, hb⟩ := hrec kids[i] hxm S
    have hemb : (embL kids)[i]? = some kids[i].emb := by rw [embL_map, List.getElem?_map, hxe]; rfl
    have hw : IntKind.i64.wrap ((i : Int) + 1) = (i : Int) + 1 := wrap64 _ (by omega)
    have hps : E.ps 164 4 = [(13, 19)] := rfl
    obtain ⟨z, hz⟩ := ii24
    generalize kids[i] = x at *
    obtain ⟨k, nm, a, lo, hi', tk', ks⟩ := x
    simp only [X.emb] at hemb hr
    generalize hK : AV.slice (embL ks) (tokOf tk') = kk at *
    have hkc : kk.isCell = true := by rw [← hK]; rfl
    cases g0 : (k == 3)
    · refine ⟨.ret, _, by
        simp (disch := first | (simp only [List.length_append, List.length_cons, List.length_nil]; omega) | (simp; done) | assumption) [AV.cells?, AV.isCell, -AV.isCell, hkc, txLoop, cutC, bodyOf, Tryz.f164, E_esc, h0, h1, h2, h3, fq0, fq1, k24, c24, a24, k3, c3, a3, k9, c9, a9, z24, i24, hz, sq22, bq3, hlen, hlt, hltz, hemb, bne, hps, g0]
        rfl, .inr ⟨by simp, rfl, .inr ⟨rfl, by simp [upd], i, hlt, fun ⟨_, _, he, _, _⟩ => by rw [hxe] at he; cases he; simp at g0⟩⟩⟩
    have e0 : k = 3 := by simpa using g0
    subst e0
    cases b'
    · refine ⟨.ret, _, by
        simp (disch := first | (simp only [List.length_append, List.length_cons, List.length_nil]; omega) | (simp; done) | assumption) [AV.cells?, AV.isCell, -AV.isCell, hkc, txLoop, cutC, bodyOf, Tryz.f164, E_esc, h0, h1, h2, h3, fq0, fq1, k24, c24, a24, k3, c3, a3, k9, c9, a9, z24, i24, hz, sq22, bq3, hlen, hlt, hltz, hemb, bne, hps, hr]
        rfl, .inr ⟨by simp, rfl, .inr ⟨rfl, by simp [upd], i, hlt, fun ⟨_, _, he, hp', _⟩ => by
          rw [hxe] at he; cases he
          have := hb.2 ((may_text _ _ _ _ _ _).2 ⟨rfl, rfl, rfl, rfl, hp'⟩)
          cases this⟩⟩⟩
    obtain ⟨e1, e2, e3, e4, hp⟩ := (may_text _ _ _ _ _ _).1 (hb.1 rfl)
    subst e1 e2 e3 e4
    have good : (0 < i → ∀ y, kids[i - 1]? = some y → (Op.bytesLess nm y.nm || nm == y.nm) = false) → ∀ j, j < i + 1 → kidOK kids j := fun hr j hj => by
      by_cases hji : j = i
      · subst hji; exact ⟨nm, tk', hxe, hp, hr⟩
      · exact h5 j (by omega)
    by_cases hi0 : i = 0
    · subst hi0
      refine ⟨.norm, _, by
        simp (disch := first | (simp only [List.length_append, List.length_cons, List.length_nil]; omega) | (simp; done) | assumption) [AV.cells?, AV.isCell, -AV.isCell, hkc, txLoop, cutC, bodyOf, Tryz.f164, E_esc, h0, h1, h2, h3, fq0, fq1, k24, c24, a24, k3, c3, a3, k9, c9, a9, z24, i24, hz, sq22, bq3, bq9, hlen, hlt, hltz, hemb, bne, hps, hr]
        rfl, .inl ⟨rfl, m, by omega, 1, by omega, by simp [upd, h0], by simp [upd, h1], by simp [upd, h2], by simp [upd, wrap64 1 (by omega)], rfl, good (fun h => absurd h (Nat.lt_irrefl 0))⟩⟩
    · have hpos : (0 : Int) < i := by omega
      have hpos' : 0 < i := by omega
      have hw2 : IntKind.i64.wrap ((i : Int) - 1) = ((i - 1 : Nat) : Int) := by rw [wrap64 _ (by omega)]; omega
      have hye : kids[i - 1]? = some kids[i - 1] := List.getElem?_eq_getElem (by omega)
      have hemb2 : (embL kids)[i - 1]? = some kids[i - 1].emb := by rw [embL_map, List.getElem?_map, hye]; rfl
      generalize kids[i - 1] = y at *
      obtain ⟨kk2, nm2, aa, lo2, hi2, tk2, ks2⟩ := y
      simp only [X.emb] at hemb2
      generalize hK2 : AV.slice (embL ks2) (tokOf tk2) = kc at *
      have hkc2 : kc.isCell = true := by rw [← hK2]; rfl
      cases g6 : (Op.bytesLess nm nm2 || nm == nm2)
      · refine ⟨.norm, _, by
          simp (disch := first | (simp only [List.length_append, List.length_cons, List.length_nil]; omega) | (simp; done) | assumption) [AV.cells?, AV.isCell, -AV.isCell, hkc, hkc2, txLoop, cutC, bodyOf, Tryz.f164, E_esc, h0, h1, h2, h3, fq0, fq1, k24, c24, a24, k3, c3, a3, k9, c9, a9, z24, i24, hz, sq22, bq3, bq9, hlen, hlt, hltz, hemb, hemb2, bne, hps, hr, hpos, hpos', hw2, g6, -Bool.or_eq_true, -Bool.or_eq_false_iff]
          rfl, .inl ⟨rfl, m, by omega, i + 1, by omega, by simp [upd, h0], by simp [upd, h1], by simp [upd, h2], by simp [upd, hw], rfl, good fun _ y hy => by rw [hye] at hy; cases hy; exact g6⟩⟩
      · refine ⟨.ret, _, by
          simp (disch := first | (simp only [List.length_append, List.length_cons, List.length_nil]; omega) | (simp; done) | assumption) [AV.cells?, AV.isCell, -AV.isCell, hkc, hkc2, txLoop, cutC, bodyOf, Tryz.f164, E_esc, h0, h1, h2, h3, fq0, fq1, k24, c24, a24, k3, c3, a3, k9, c9, a9, z24, i24, hz, sq22, bq3, bq9, hlen, hlt, hltz, hemb, hemb2, bne, hps, hr, hpos, hpos', hw2, g6, -Bool.or_eq_true, -Bool.or_eq_false_iff]
          rfl, .inr ⟨by simp, rfl, .inr ⟨rfl, by simp [upd], i, hlt, fun ⟨_, _, he, _, hr⟩ => by rw [hxe] at he; cases he; have := hr hpos' _ hye; simp only [X.nm] at this; rw [g6] at this; cases this⟩⟩⟩

theorem ev_texts (n : Nat) (kids : List X) (tok : Tok) (S : St) (hs : kids.length ≤ 1048576) (hn : kids.length < n)
    (hrec : ∀ x ∈ kids, ∀ S, ∃ b, ev Tryz.prog E n 144 [x.emb] S = some (.ret (.bool b), S) ∧ (b = true ↔ MayAll x)) :
    ∃ b, ev Tryz.prog E (n + 1) 164 [.slice (embL kids) tok] S = some (.ret (.bool b), S) ∧ (b = true ↔ SetOK kids) := by
  have hlen := embL_length kids
  rw [ev_enter (n := n) (show E.ok 164 = true from rfl) Tryz.func164 f71b (Nat.le_of_ble_eq_true rfl) (by decide +kernel)]
  obtain ⟨⟨o, t, b, v, S'⟩, hr, hS, hq⟩ := iter_meas (fun m fs h => tx_round n kids tok S hs hrec m fs h) kids.length n
    ⟨upd 7 (.int .i64 0) (upd 6 (.int .i64 kids.length) (upd 5 (.slice (embL kids) tok) (upd 2 (.bool false) (argsA [.slice (embL kids) tok])))), fun _ => (0, []), 4, S⟩ hn
    ⟨0, by omega, by simp [upd, argsA], by simp [upd], by simp [upd], by simp [upd], rfl, fun j hj => by omega⟩
  simp only at hS hq
  subst hS
  rcases hq with ⟨rfl, g0, ha⟩ | ⟨rfl, h2, j, hj, hno⟩
  · by_cases h8 : kids.length ≤ 8
    · have h8z : (kids.length : Int) ≤ 8 := by omega
      refine ⟨true, ?_, iff_of_true rfl ⟨h8, ha⟩⟩
      simp (disch := first | (simp only [List.length_append, List.length_cons, List.length_nil]; omega) | (simp; done) | assumption) [AV.cells?, AV.isCell, tx0, tx1, tx2, cutC, bodyOf, Tryz.f164, sq22, bq3, hlen, hr, g0, h8, h8z]
    · have h8z : ¬ (kids.length : Int) ≤ 8 := by omega
      refine ⟨false, ?_, iff_of_false (by simp) fun g => h8 g.1⟩
      simp (disch := first | (simp only [List.length_append, List.length_cons, List.length_nil]; omega) | (simp; done) | assumption) [AV.cells?, AV.isCell, tx0, tx1, tx2, cutC, bodyOf, Tryz.f164, sq22, bq3, hlen, hr, g0, h8, h8z]
  · refine ⟨false, ?_, iff_of_false (by simp) fun g => hno (g.2 j hj)⟩
    simp (disch := first | (simp only [List.length_append, List.length_cons, List.length_nil]; omega) | (simp; done) | assumption) [AV.cells?, AV.isCell, tx0, tx1, tx2, cutC, bodyOf, Tryz.f164, sq22, hlen, hr, h2]
end Go.Proofs.YtcpoinfdnimanaaGreatDoor.NF
/- ast.Check, evaluated. No condition. -/
namespace Go.Proofs.YtcpoinfdnimanaaGreatDoor.NF
set_option linter.unusedVariables false
set_option linter.unusedSimpArgs false
open Go AE EX PT
set_option maxRecDepth 100000

theorem nodesL_all {q : X → Prop} : ∀ l : List X, (∀ y ∈ nodesL l, q y) ↔ ∀ x ∈ l, ∀ y ∈ x.nodes, q y
  | [] => by simp [nodesL]
  | x :: l => by
    have := nodesL_all (q := q) l
    simp only [nodesL, List.mem_append, List.mem_cons]
    constructor
    · rintro h z (rfl | hz) y hy
      · exact h y (.inl hy)
      · exact this.1 (fun y hy => h y (.inr hy)) z hz y hy
    · rintro h y (hy | hy)
      · exact h x (.inl rfl) y hy
      · exact this.2 (fun z hz => h z (.inr hz)) y hy
theorem mayAll_set {k : Int} {nm : List UInt8} {a lo hi : Int} {tk : Bool} {kids : List X} (h4 : k = 4) :
    MayAll (.mk k nm a lo hi tk kids) ↔ Fits k nm a lo hi ∧ SetOK kids := by
  subst h4
  constructor
  · intro h
    obtain ⟨_, _, g3, g4⟩ := h _ (List.mem_cons_self ..)
    exact ⟨g4, g3 rfl⟩
  · rintro ⟨g4, g3⟩ y hy
    simp [X.nodes] at hy
    subst hy
    exact ⟨by simp [kinds], fun h => absurd rfl h, fun _ => g3, g4⟩
theorem mayAll_more {k : Int} {nm : List UInt8} {a lo hi : Int} {tk : Bool} {kids : List X} (h4 : k ≠ 4) :
    MayAll (.mk k nm a lo hi tk kids) ↔ kinds k ∧ (kids.length : Int) = kidsI k ∧ Fits k nm a lo hi ∧ ∀ x ∈ kids, MayAll x := by
  have h4' : (k == 4) = false := by simp [h4]
  have hn : (X.mk k nm a lo hi tk kids).nodes = X.mk k nm a lo hi tk kids :: nodesL kids := by simp [X.nodes, h4']
  unfold MayAll
  rw [hn]
  constructor
  · intro h
    obtain ⟨g1, g2, _, g4⟩ := h _ (List.mem_cons_self ..)
    exact ⟨g1, g2 h4, g4, (nodesL_all kids).1 fun y hy => h y (List.mem_cons_of_mem _ hy)⟩
  · rintro ⟨g1, g2, g4, hk⟩ y hy
    rcases List.mem_cons.1 hy with rfl | hy
    · exact ⟨g1, fun _ => g2, fun h => absurd h h4, g4⟩
    · exact (nodesL_all kids).2 hk y hy

theorem bulkL_mem {x : X} : ∀ {l : List X}, x ∈ l → x.bulk ≤ bulkL l
  | y :: l, h => by
    rcases List.mem_cons.1 h with rfl | h
    · simp [bulkL]
    · have := bulkL_mem h; simp [bulkL]; omega
theorem bulkL_length : ∀ l : List X, 7 * l.length ≤ bulkL l
  | [] => by simp [bulkL]
  | .mk k nm n lo hi tk kids :: l => by
    have := bulkL_length l
    simp [bulkL, X.bulk]; omega

theorem ev_mayKid (n : Nat) (x : X) (S : St) (b : Bool) (h : ev Tryz.prog E n 144 [x.emb] S = some (.ret (.bool b), S)) : ev Tryz.prog E (n + 1) 165 [x.emb] S = some (.ret (.bool (!b)), S) := by
  rw [ev_enter (n := n) (show E.ok 165 = true from rfl) Tryz.func165 (fn := Tryz.f165) rfl (Nat.le_of_ble_eq_true rfl) (by decide +kernel)]
  have ha1 := cells_all x
  have hc1 := (cells_ok x).2
  have ht1 : List.take 6 x.cells = x.cells := List.take_of_length_le (by omega)
  rw [emb_cells] at h ⊢
  generalize x.cells = C1 at *
  simp (disch := first | (simp only [List.length_append, List.length_cons, List.length_nil]; omega) | (simp; done) | assumption) [AV.cells?, AV.isCell, Tryz.f165, E_esc, k24, c24, a24, h, ha1, hc1, ht1]

set_option maxHeartbeats 4000000 in
theorem ev_may : ∀ (m : Nat) (x : X), x.bulk ≤ m → m ≤ 1048576 → ∀ n, m + 20 ≤ n → ∀ S, ∃ b, ev Tryz.prog E n 144 [x.emb] S = some (.ret (.bool b), S) ∧ (b = true ↔ MayAll x)
  | 0, x, hm, _, _, _, _ => absurd hm (by have := size_pos x; have := size_bulk x; omega)
  | m + 1, x, hm, hmm, n, hn, S => by
    obtain ⟨n, rfl⟩ : ∃ k, n = k + 4 := ⟨n - 4, by omega⟩
    obtain ⟨k, nm, a, lo, hi, tk, kids⟩ := x
    simp only [X.bulk] at hm
    have hl := bulkL_length kids
    have hlen := embL_length kids
    have hrec : ∀ q, m ≤ q + 6 → ∀ x ∈ kids, ∀ S, ∃ b, ev Tryz.prog E (q + 20) 144 [x.emb] S = some (.ret (.bool b), S) ∧ (b = true ↔ MayAll x) := fun q hq x hx S => by
      have := bulkL_mem hx
      exact ev_may (m - 6) x (by omega) (by omega) (q + 20) (by omega) S
    have hps : E.ps 144 3 = [(1, 4), (2, 4)] := rfl
    simp only [X.emb]
    rw [ev_enter (n := n + 3) (show E.ok 144 = true from rfl) Tryz.func144 (fn := Tryz.f144) rfl (Nat.le_of_ble_eq_true rfl) (by decide +kernel)]
    cases h4 : k == 4
    · have h4' : k ≠ 4 := by simpa using h4
      rw [mayAll_more h4']
      have hK := ev_aKids (n + 2) k S
      cases e1 : (kidsI k == (kids.length : Int))
      · refine ⟨false, ?_, iff_of_false (by simp) fun g => by have := g.2.1; rw [this] at e1; simp at e1⟩
        simp (disch := first | (simp only [List.length_append, List.length_cons, List.length_nil]; omega) | (simp; done) | assumption) [AV.cells?, AV.isCell, Tryz.f144, E_esc, k24, c24, a24, k3, c3, a3, k22, c22, a22, fq0, fq5, bq3, hlen, sq22, h4, hps, hK, e1]
      have e1' : (kids.length : Int) = kidsI k := by simp at e1; omega
      have hk : kinds k := by
        by_cases hk : kinds k
        · exact hk
        · rw [kidsI_out hk] at e1'; omega
      obtain ⟨b1, hO, hb1⟩ := ev_own (n + 3) k nm (by omega) (by omega) a lo hi (.slice (embL kids) (tokOf tk)) rfl hk S
      cases b1
      · refine ⟨false, ?_, iff_of_false (by simp) fun g => by have := hb1.2 g.2.2.1; cases this⟩
        simp (disch := first | (simp only [List.length_append, List.length_cons, List.length_nil]; omega) | (simp; done) | assumption) [AV.cells?, AV.isCell, Tryz.f144, E_esc, k24, c24, a24, k3, c3, a3, k22, c22, a22, fq0, fq5, bq3, hlen, sq22, h4, hps, hK, e1, hO]
      obtain ⟨b2, hC, hb2⟩ := ev_Contains (n + 1) kids (tokOf tk) 165 (fun x => ¬ MayAll x) S (by omega) (by omega) (fun x hx S => by
        obtain ⟨q, hq⟩ : ∃ q, n = q + 20 := ⟨n - 20, by omega⟩
        obtain ⟨b, h1, h2⟩ := hrec q (by omega) x hx S
        rw [← hq] at h1
        exact ⟨!b, ev_mayKid n x S b h1, by rw [← h2]; cases b <;> simp⟩)
      refine ⟨!b2, ?_, ?_⟩
      · cases b2 <;> simp (disch := first | (simp only [List.length_append, List.length_cons, List.length_nil]; omega) | (simp; done) | assumption) [AV.cells?, AV.isCell, Tryz.f144, E_esc, k24, c24, a24, k3, c3, a3, k22, c22, a22, fq0, fq5, bq3, hlen, sq22, h4, hps, hK, e1, hO, hC]
      · have : (b2 = true) ↔ ¬ ∀ x ∈ kids, MayAll x := by rw [hb2]; simp
        have h0 := hb1.1 rfl
        cases b2
        · simp at this
          exact iff_of_true rfl ⟨hk, e1', h0, this⟩
        · exact iff_of_false (by simp) fun g => this.1 rfl g.2.2.2
    · have h4' : k = 4 := by simpa using h4
      rw [mayAll_set h4']
      subst h4'
      obtain ⟨b1, hO, hb1⟩ := ev_own (n + 3) 4 nm (by omega) (by omega) a lo hi (.slice (embL kids) (tokOf tk)) rfl (by simp [kinds]) S
      cases b1
      · refine ⟨false, ?_, iff_of_false (by simp) fun g => by have := hb1.2 g.1; cases this⟩
        simp (disch := first | (simp only [List.length_append, List.length_cons, List.length_nil]; omega) | (simp; done) | assumption) [AV.cells?, AV.isCell, Tryz.f144, E_esc, k24, c24, a24, k3, c3, a3, k22, c22, a22, fq0, fq5, bq3, hlen, sq22, hO]
      obtain ⟨b2, hC, hb2⟩ := ev_texts (n + 2) kids (tokOf tk) S (by omega) (by omega) (fun x hx S => by
        obtain ⟨q, hq⟩ : ∃ q, n + 2 = q + 20 := ⟨n - 18, by omega⟩
        obtain ⟨b, h1, h2⟩ := hrec q (by omega) x hx S
        rw [← hq] at h1
        exact ⟨b, h1, h2⟩)
      refine ⟨b2, ?_, ?_⟩
      · cases b2 <;> simp (disch := first | (simp only [List.length_append, List.length_cons, List.length_nil]; omega) | (simp; done) | assumption) [AV.cells?, AV.isCell, Tryz.f144, E_esc, k24, c24, a24, k3, c3, a3, k22, c22, a22, fq0, fq5, bq3, hlen, sq22, hO, hC]
      · rw [hb2]
        exact ⟨fun h => ⟨hb1.1 rfl, h⟩, fun h => h.2⟩

open Classical in
/-- what Check answers -/
noncomputable def chkX (x : X) : Int := if 12 < x.dep then 32 else if 64 < x.nodes.length then 3 else if MayAll x then 0 else 12
theorem chkX_ok (x : X) : chkX x = 0 ↔ OKx x := by
  unfold chkX OKx
  by_cases h1 : 12 < x.dep
  · rw [if_pos h1]
    exact iff_of_false (by decide) fun h => by have := h.1; omega
  · rw [if_neg h1]
    by_cases h2 : 64 < x.nodes.length
    · rw [if_pos h2]
      exact iff_of_false (by decide) fun h => by have := h.2.1; omega
    · rw [if_neg h2]
      by_cases h3 : MayAll x
      · rw [if_pos h3]
        exact iff_of_true rfl ⟨by omega, by omega, h3⟩
      · rw [if_neg h3]
        exact iff_of_false (by decide) fun h => h3 h.2.2
theorem ev_aCheckC (n : Nat) (x : X) (hx : x.bulk + 22 ≤ n) (hs : x.bulk ≤ 1048576) (S : St) :
    ev Tryz.prog E (n + 1) 129 [x.emb] S = some (.ret (.int .i64 (chkX x)), S) := by
  have hsz := size_bulk x
  have hsz7 := size7 x
  have hD := ev_aDepth x.size x (Nat.le_refl _) (by omega) n (by omega) S
  have hA := ev_aSize x.size x (Nat.le_refl _) (by omega) n (by omega) S
  obtain ⟨b, hM, hb⟩ := ev_may x.bulk x (Nat.le_refl _) hs n (by omega) S
  have ha1 := cells_all x
  have hc1 := (cells_ok x).2
  have ht1 : List.take 6 x.cells = x.cells := List.take_of_length_le (by omega)
  rw [ev_enter (n := n) (show E.ok 129 = true from rfl) Tryz.func129 (fn := Tryz.f129) rfl (Nat.le_of_ble_eq_true rfl) (by decide +kernel)]
  rw [emb_cells] at hD hA hM ⊢
  by_cases h12 : 12 < x.dep
  · have h12z : (12 : Int) < x.dep := by omega
    have hk : chkX x = 32 := by unfold chkX; rw [if_pos h12]
    rw [hk]
    clear hk
    generalize x.cells = C1 at *
    simp (disch := first | (simp only [List.length_append, List.length_cons, List.length_nil]; omega) | (simp; done) | assumption) [AV.cells?, AV.isCell, Tryz.f129, E_esc, k24, c24, a24, bq3, ha1, hc1, ht1, hD, h12, h12z]
  have h12z : ¬ (12 : Int) < x.dep := by omega
  by_cases h64 : 64 < x.nodes.length
  · have h64z : (64 : Int) < x.nodes.length := by omega
    have hk : chkX x = 3 := by unfold chkX; rw [if_neg h12, if_pos h64]
    rw [hk]
    clear hk
    generalize x.cells = C1 at *
    simp (disch := first | (simp only [List.length_append, List.length_cons, List.length_nil]; omega) | (simp; done) | assumption) [AV.cells?, AV.isCell, Tryz.f129, E_esc, k24, c24, a24, bq3, ha1, hc1, ht1, hD, hA, h12, h12z, h64, h64z]
  have h64z : ¬ (64 : Int) < x.nodes.length := by omega
  cases b
  · have hk : chkX x = 12 := by unfold chkX; rw [if_neg h12, if_neg h64, if_neg fun h => by have := hb.2 h; cases this]
    rw [hk]
    clear hk
    generalize x.cells = C1 at *
    simp (disch := first | (simp only [List.length_append, List.length_cons, List.length_nil]; omega) | (simp; done) | assumption) [AV.cells?, AV.isCell, Tryz.f129, E_esc, k24, c24, a24, bq3, ha1, hc1, ht1, hD, hA, hM, h12, h12z, h64, h64z]
  · have hk : chkX x = 0 := by unfold chkX; rw [if_neg h12, if_neg h64, if_pos (hb.1 rfl)]
    rw [hk]
    clear hk
    generalize x.cells = C1 at *
    simp (disch := first | (simp only [List.length_append, List.length_cons, List.length_nil]; omega) | (simp; done) | assumption) [AV.cells?, AV.isCell, Tryz.f129, E_esc, k24, c24, a24, bq3, ha1, hc1, ht1, hD, hA, hM, h12, h12z, h64, h64z]
theorem ev_aCheck (n : Nat) (x : X) (hx : x.bulk + 22 ≤ n) (hs : x.bulk ≤ 1048576) (S : St) :
    ∃ c : Int, ev Tryz.prog E (n + 1) 129 [x.emb] S = some (.ret (.int .i64 c), S) ∧ (c = 0 ↔ OKx x) := ⟨_, ev_aCheckC n x hx hs S, chkX_ok x⟩
end Go.Proofs.YtcpoinfdnimanaaGreatDoor.NF
/- What the types are (made by tys.py). No condition. -/
namespace Go.Proofs.YtcpoinfdnimanaaGreatDoor.PT
set_option linter.unusedVariables false
set_option linter.unusedSimpArgs false
open Go AE EX
set_option maxRecDepth 100000
@[simp] theorem Ty2 : Tryz.prog.cellsOf 2 = 1 ∧ aggQ Tryz.prog 2 = false ∧ knownQ Tryz.prog 2 = true ∧ (Tryz.prog.info? 2).isSome = true ∧ boolQ Tryz.prog 2 = false ∧ zeroQ Tryz.prog 2 = some [.int .i64 0] ∧ intQ Tryz.prog 2 = some .i64 ∧ Tryz.prog.underlying 2 = some (.int .i64) ∧ strQ Tryz.prog 2 = false ∧ ifcQ Tryz.prog 2 = false ∧ concQ Tryz.prog 2 = true ∧ Tryz.prog.bytesOf 2 = 8 := by
  and_intros <;> kernel_rfl
@[simp] theorem Ty3 : Tryz.prog.cellsOf 3 = 1 ∧ aggQ Tryz.prog 3 = false ∧ knownQ Tryz.prog 3 = true ∧ (Tryz.prog.info? 3).isSome = true ∧ boolQ Tryz.prog 3 = false ∧ zeroQ Tryz.prog 3 = some [.int .i64 0] ∧ intQ Tryz.prog 3 = some .i64 ∧ Tryz.prog.underlying 3 = some (.int .i64) ∧ strQ Tryz.prog 3 = false ∧ ifcQ Tryz.prog 3 = false ∧ concQ Tryz.prog 3 = true ∧ Tryz.prog.bytesOf 3 = 8 := by
  and_intros <;> kernel_rfl
@[simp] theorem Ty4 : Tryz.prog.cellsOf 4 = 1 ∧ aggQ Tryz.prog 4 = false ∧ knownQ Tryz.prog 4 = true ∧ (Tryz.prog.info? 4).isSome = true ∧ boolQ Tryz.prog 4 = true ∧ zeroQ Tryz.prog 4 = some [.bool false] ∧ Tryz.prog.underlying 4 = some .bool ∧ ifcQ Tryz.prog 4 = false ∧ concQ Tryz.prog 4 = true ∧ Tryz.prog.bytesOf 4 = 1 := by
  and_intros <;> kernel_rfl
@[simp] theorem Ty5 : Tryz.prog.cellsOf 5 = 1 ∧ aggQ Tryz.prog 5 = false ∧ knownQ Tryz.prog 5 = true ∧ (Tryz.prog.info? 5).isSome = true ∧ boolQ Tryz.prog 5 = false ∧ zeroQ Tryz.prog 5 = some [.int .u8 0] ∧ intQ Tryz.prog 5 = some .u8 ∧ Tryz.prog.underlying 5 = some (.int .u8) ∧ strQ Tryz.prog 5 = false ∧ ifcQ Tryz.prog 5 = false ∧ concQ Tryz.prog 5 = true ∧ Tryz.prog.bytesOf 5 = 1 := by
  and_intros <;> kernel_rfl
@[simp] theorem Ty6 : Tryz.prog.cellsOf 6 = 1 ∧ aggQ Tryz.prog 6 = false ∧ knownQ Tryz.prog 6 = true ∧ (Tryz.prog.info? 6).isSome = true ∧ boolQ Tryz.prog 6 = false ∧ zeroQ Tryz.prog 6 = some [.int .u8 0] ∧ intQ Tryz.prog 6 = some .u8 ∧ Tryz.prog.underlying 6 = some (.int .u8) ∧ strQ Tryz.prog 6 = false ∧ ifcQ Tryz.prog 6 = false ∧ concQ Tryz.prog 6 = true ∧ Tryz.prog.bytesOf 6 = 1 := by
  and_intros <;> kernel_rfl
@[simp] theorem Ty7 : Tryz.prog.cellsOf 7 = 4 ∧ aggQ Tryz.prog 7 = true ∧ knownQ Tryz.prog 7 = true ∧ (Tryz.prog.info? 7).isSome = true ∧ boolQ Tryz.prog 7 = false ∧ zeroQ Tryz.prog 7 = some [.int .i64 0, .int .i64 0, .bool false, .int .u8 0] ∧ partsQ Tryz.prog 7 = true ∧ fieldQ Tryz.prog 7 0 = some (0, 1, false) ∧ placeQ Tryz.prog 7 0 = some (0, 1) ∧ fieldQ Tryz.prog 7 1 = some (1, 1, false) ∧ placeQ Tryz.prog 7 1 = some (1, 1) ∧ fieldQ Tryz.prog 7 2 = some (2, 1, false) ∧ placeQ Tryz.prog 7 2 = some (2, 1) ∧ fieldQ Tryz.prog 7 3 = some (3, 1, false) ∧ placeQ Tryz.prog 7 3 = some (3, 1) ∧ ifcQ Tryz.prog 7 = false ∧ concQ Tryz.prog 7 = true ∧ Tryz.prog.bytesOf 7 = 24 := by
  and_intros <;> kernel_rfl
@[simp] theorem Ty8 : Tryz.prog.cellsOf 8 = 4 ∧ aggQ Tryz.prog 8 = true ∧ knownQ Tryz.prog 8 = true ∧ (Tryz.prog.info? 8).isSome = true ∧ boolQ Tryz.prog 8 = false ∧ zeroQ Tryz.prog 8 = some [.int .i64 0, .int .i64 0, .bool false, .int .u8 0] ∧ partsQ Tryz.prog 8 = true ∧ fieldQ Tryz.prog 8 0 = some (0, 1, false) ∧ placeQ Tryz.prog 8 0 = some (0, 1) ∧ fieldQ Tryz.prog 8 1 = some (1, 1, false) ∧ placeQ Tryz.prog 8 1 = some (1, 1) ∧ fieldQ Tryz.prog 8 2 = some (2, 1, false) ∧ placeQ Tryz.prog 8 2 = some (2, 1) ∧ fieldQ Tryz.prog 8 3 = some (3, 1, false) ∧ placeQ Tryz.prog 8 3 = some (3, 1) ∧ ifcQ Tryz.prog 8 = false ∧ concQ Tryz.prog 8 = true ∧ Tryz.prog.bytesOf 8 = 24 := by
  and_intros <;> kernel_rfl
@[simp] theorem Ty9 : Tryz.prog.cellsOf 9 = 1 ∧ aggQ Tryz.prog 9 = false ∧ knownQ Tryz.prog 9 = true ∧ (Tryz.prog.info? 9).isSome = true ∧ boolQ Tryz.prog 9 = false ∧ zeroQ Tryz.prog 9 = some [.str []] ∧ strQ Tryz.prog 9 = true ∧ Tryz.prog.underlying 9 = some .string ∧ ifcQ Tryz.prog 9 = false ∧ concQ Tryz.prog 9 = true ∧ Tryz.prog.bytesOf 9 = 16 := by
  and_intros <;> kernel_rfl
@[simp] theorem Ty10 : Tryz.prog.cellsOf 10 = 1 ∧ aggQ Tryz.prog 10 = false ∧ knownQ Tryz.prog 10 = true ∧ (Tryz.prog.info? 10).isSome = true ∧ boolQ Tryz.prog 10 = false ∧ zeroQ Tryz.prog 10 = some [.str []] ∧ strQ Tryz.prog 10 = true ∧ Tryz.prog.underlying 10 = some .string ∧ ifcQ Tryz.prog 10 = false ∧ concQ Tryz.prog 10 = true ∧ Tryz.prog.bytesOf 10 = 16 := by
  and_intros <;> kernel_rfl
@[simp] theorem Ty11 : Tryz.prog.cellsOf 11 = 1 ∧ aggQ Tryz.prog 11 = false ∧ knownQ Tryz.prog 11 = true ∧ (Tryz.prog.info? 11).isSome = true ∧ boolQ Tryz.prog 11 = false ∧ zeroQ Tryz.prog 11 = some [.str []] ∧ strQ Tryz.prog 11 = true ∧ Tryz.prog.underlying 11 = some .string ∧ ifcQ Tryz.prog 11 = false ∧ concQ Tryz.prog 11 = true ∧ Tryz.prog.bytesOf 11 = 16 := by
  and_intros <;> kernel_rfl
@[simp] theorem Ty12 : Tryz.prog.cellsOf 12 = 1 ∧ aggQ Tryz.prog 12 = false ∧ knownQ Tryz.prog 12 = true ∧ (Tryz.prog.info? 12).isSome = true ∧ boolQ Tryz.prog 12 = false ∧ zeroQ Tryz.prog 12 = some [.int .u64 0] ∧ intQ Tryz.prog 12 = some .u64 ∧ Tryz.prog.underlying 12 = some (.int .u64) ∧ strQ Tryz.prog 12 = false ∧ ifcQ Tryz.prog 12 = false ∧ concQ Tryz.prog 12 = true ∧ Tryz.prog.bytesOf 12 = 8 := by
  and_intros <;> kernel_rfl
@[simp] theorem Ty13 : Tryz.prog.cellsOf 13 = 2 ∧ aggQ Tryz.prog 13 = true ∧ knownQ Tryz.prog 13 = true ∧ (Tryz.prog.info? 13).isSome = true ∧ boolQ Tryz.prog 13 = false ∧ zeroQ Tryz.prog 13 = some [.str [], .int .u64 0] ∧ partsQ Tryz.prog 13 = true ∧ fieldQ Tryz.prog 13 0 = some (0, 1, false) ∧ placeQ Tryz.prog 13 0 = some (0, 1) ∧ fieldQ Tryz.prog 13 1 = some (1, 1, false) ∧ placeQ Tryz.prog 13 1 = some (1, 1) ∧ ifcQ Tryz.prog 13 = false ∧ concQ Tryz.prog 13 = true ∧ Tryz.prog.bytesOf 13 = 24 := by
  and_intros <;> kernel_rfl
@[simp] theorem Ty14 : Tryz.prog.cellsOf 14 = 2 ∧ aggQ Tryz.prog 14 = true ∧ knownQ Tryz.prog 14 = true ∧ (Tryz.prog.info? 14).isSome = true ∧ boolQ Tryz.prog 14 = false ∧ zeroQ Tryz.prog 14 = some [.str [], .int .u64 0] ∧ partsQ Tryz.prog 14 = true ∧ fieldQ Tryz.prog 14 0 = some (0, 1, false) ∧ placeQ Tryz.prog 14 0 = some (0, 1) ∧ fieldQ Tryz.prog 14 1 = some (1, 1, false) ∧ placeQ Tryz.prog 14 1 = some (1, 1) ∧ ifcQ Tryz.prog 14 = false ∧ concQ Tryz.prog 14 = true ∧ Tryz.prog.bytesOf 14 = 24 := by
  and_intros <;> kernel_rfl
@[simp] theorem Ty15 : Tryz.prog.cellsOf 15 = 1 ∧ aggQ Tryz.prog 15 = false ∧ knownQ Tryz.prog 15 = true ∧ (Tryz.prog.info? 15).isSome = true ∧ boolQ Tryz.prog 15 = false ∧ zeroQ Tryz.prog 15 = some [.nilp] ∧ ifcQ Tryz.prog 15 = false ∧ concQ Tryz.prog 15 = true ∧ ptrQ Tryz.prog 15 = true ∧ Tryz.prog.bytesOf 15 = 8 := by
  and_intros <;> kernel_rfl
@[simp] theorem Ty16 : Tryz.prog.cellsOf 16 = 1 ∧ aggQ Tryz.prog 16 = false ∧ knownQ Tryz.prog 16 = true ∧ (Tryz.prog.info? 16).isSome = true ∧ boolQ Tryz.prog 16 = false ∧ zeroQ Tryz.prog 16 = some [.nilp] ∧ ifcQ Tryz.prog 16 = false ∧ concQ Tryz.prog 16 = true ∧ ptrQ Tryz.prog 16 = true ∧ Tryz.prog.bytesOf 16 = 8 := by
  and_intros <;> kernel_rfl
@[simp] theorem Ty17 : Tryz.prog.cellsOf 17 = 1 ∧ aggQ Tryz.prog 17 = false ∧ knownQ Tryz.prog 17 = true ∧ (Tryz.prog.info? 17).isSome = true ∧ boolQ Tryz.prog 17 = false ∧ zeroQ Tryz.prog 17 = some [.nilp] ∧ ifcQ Tryz.prog 17 = false ∧ concQ Tryz.prog 17 = true ∧ ptrQ Tryz.prog 17 = true ∧ Tryz.prog.bytesOf 17 = 8 := by
  and_intros <;> kernel_rfl
@[simp] theorem Ty18 : Tryz.prog.cellsOf 18 = 1 ∧ aggQ Tryz.prog 18 = true ∧ knownQ Tryz.prog 18 = true ∧ (Tryz.prog.info? 18).isSome = true ∧ boolQ Tryz.prog 18 = false ∧ zeroQ Tryz.prog 18 = some [.nilp] ∧ partsQ Tryz.prog 18 = true ∧ fieldQ Tryz.prog 18 0 = some (0, 1, false) ∧ placeQ Tryz.prog 18 0 = some (0, 1) ∧ ifcQ Tryz.prog 18 = false ∧ concQ Tryz.prog 18 = true ∧ Tryz.prog.bytesOf 18 = 8 := by
  and_intros <;> kernel_rfl
@[simp] theorem Ty19 : Tryz.prog.cellsOf 19 = 1 ∧ aggQ Tryz.prog 19 = true ∧ knownQ Tryz.prog 19 = true ∧ (Tryz.prog.info? 19).isSome = true ∧ boolQ Tryz.prog 19 = false ∧ zeroQ Tryz.prog 19 = some [.nilp] ∧ partsQ Tryz.prog 19 = true ∧ fieldQ Tryz.prog 19 0 = some (0, 1, false) ∧ placeQ Tryz.prog 19 0 = some (0, 1) ∧ ifcQ Tryz.prog 19 = false ∧ concQ Tryz.prog 19 = true ∧ Tryz.prog.bytesOf 19 = 8 := by
  and_intros <;> kernel_rfl
@[simp] theorem Ty20 : Tryz.prog.cellsOf 20 = 1 ∧ aggQ Tryz.prog 20 = false ∧ knownQ Tryz.prog 20 = true ∧ (Tryz.prog.info? 20).isSome = true ∧ boolQ Tryz.prog 20 = false ∧ zeroQ Tryz.prog 20 = some [.nilif] ∧ ifcQ Tryz.prog 20 = true ∧ concQ Tryz.prog 20 = false ∧ Tryz.prog.bytesOf 20 = 16 := by
  and_intros <;> kernel_rfl
@[simp] theorem Ty21 : Tryz.prog.cellsOf 21 = 1 ∧ aggQ Tryz.prog 21 = false ∧ knownQ Tryz.prog 21 = true ∧ (Tryz.prog.info? 21).isSome = true ∧ boolQ Tryz.prog 21 = false ∧ zeroQ Tryz.prog 21 = some [.int .i32 0] ∧ intQ Tryz.prog 21 = some .i32 ∧ Tryz.prog.underlying 21 = some (.int .i32) ∧ strQ Tryz.prog 21 = false ∧ ifcQ Tryz.prog 21 = false ∧ concQ Tryz.prog 21 = true ∧ Tryz.prog.bytesOf 21 = 4 := by
  and_intros <;> kernel_rfl
@[simp] theorem Ty22 : Tryz.prog.cellsOf 22 = 1 ∧ aggQ Tryz.prog 22 = false ∧ knownQ Tryz.prog 22 = true ∧ (Tryz.prog.info? 22).isSome = true ∧ boolQ Tryz.prog 22 = false ∧ zeroQ Tryz.prog 22 = some [.slice [] .clip] ∧ sliceQ Tryz.prog 22 = some 66 ∧ Tryz.prog.underlying 22 = some (.slice 66) ∧ (sliceQ Tryz.prog 22).isSome = true ∧ ifcQ Tryz.prog 22 = false ∧ concQ Tryz.prog 22 = true ∧ Tryz.prog.bytesOf 22 = 24 := by
  and_intros <;> kernel_rfl
@[simp] theorem Ty23 : Tryz.prog.cellsOf 23 = 1 ∧ aggQ Tryz.prog 23 = false ∧ knownQ Tryz.prog 23 = true ∧ (Tryz.prog.info? 23).isSome = true ∧ boolQ Tryz.prog 23 = false ∧ zeroQ Tryz.prog 23 = some [.slice [] .clip] ∧ sliceQ Tryz.prog 23 = some 37 ∧ Tryz.prog.underlying 23 = some (.slice 37) ∧ (sliceQ Tryz.prog 23).isSome = true ∧ ifcQ Tryz.prog 23 = false ∧ concQ Tryz.prog 23 = true ∧ Tryz.prog.bytesOf 23 = 24 := by
  and_intros <;> kernel_rfl
@[simp] theorem Ty24 : Tryz.prog.cellsOf 24 = 2 ∧ aggQ Tryz.prog 24 = true ∧ knownQ Tryz.prog 24 = true ∧ (Tryz.prog.info? 24).isSome = true ∧ boolQ Tryz.prog 24 = false ∧ zeroQ Tryz.prog 24 = some [.slice [] .clip, .slice [] .clip] ∧ partsQ Tryz.prog 24 = true ∧ fieldQ Tryz.prog 24 0 = some (0, 1, false) ∧ placeQ Tryz.prog 24 0 = some (0, 1) ∧ fieldQ Tryz.prog 24 1 = some (1, 1, false) ∧ placeQ Tryz.prog 24 1 = some (1, 1) ∧ ifcQ Tryz.prog 24 = false ∧ concQ Tryz.prog 24 = true ∧ Tryz.prog.bytesOf 24 = 48 := by
  and_intros <;> kernel_rfl
@[simp] theorem Ty25 : Tryz.prog.cellsOf 25 = 2 ∧ aggQ Tryz.prog 25 = true ∧ knownQ Tryz.prog 25 = true ∧ (Tryz.prog.info? 25).isSome = true ∧ boolQ Tryz.prog 25 = false ∧ zeroQ Tryz.prog 25 = some [.slice [] .clip, .slice [] .clip] ∧ partsQ Tryz.prog 25 = true ∧ fieldQ Tryz.prog 25 0 = some (0, 1, false) ∧ placeQ Tryz.prog 25 0 = some (0, 1) ∧ fieldQ Tryz.prog 25 1 = some (1, 1, false) ∧ placeQ Tryz.prog 25 1 = some (1, 1) ∧ ifcQ Tryz.prog 25 = false ∧ concQ Tryz.prog 25 = true ∧ Tryz.prog.bytesOf 25 = 48 := by
  and_intros <;> kernel_rfl
@[simp] theorem Ty27 : Tryz.prog.cellsOf 27 = 1 ∧ aggQ Tryz.prog 27 = false ∧ knownQ Tryz.prog 27 = true ∧ (Tryz.prog.info? 27).isSome = true ∧ boolQ Tryz.prog 27 = false ∧ zeroQ Tryz.prog 27 = some [.int .i64 0] ∧ intQ Tryz.prog 27 = some .i64 ∧ Tryz.prog.underlying 27 = some (.int .i64) ∧ strQ Tryz.prog 27 = false ∧ ifcQ Tryz.prog 27 = false ∧ concQ Tryz.prog 27 = true ∧ Tryz.prog.bytesOf 27 = 8 := by
  and_intros <;> kernel_rfl
@[simp] theorem Ty31 : Tryz.prog.cellsOf 31 = 1 ∧ aggQ Tryz.prog 31 = false ∧ knownQ Tryz.prog 31 = true ∧ (Tryz.prog.info? 31).isSome = true ∧ boolQ Tryz.prog 31 = false ∧ zeroQ Tryz.prog 31 = some [.slice [] .clip] ∧ sliceQ Tryz.prog 31 = some 33 ∧ Tryz.prog.underlying 31 = some (.slice 33) ∧ (sliceQ Tryz.prog 31).isSome = true ∧ ifcQ Tryz.prog 31 = false ∧ concQ Tryz.prog 31 = true ∧ Tryz.prog.bytesOf 31 = 24 := by
  and_intros <;> kernel_rfl
@[simp] theorem Ty32 : Tryz.prog.cellsOf 32 = 6 ∧ aggQ Tryz.prog 32 = true ∧ knownQ Tryz.prog 32 = true ∧ (Tryz.prog.info? 32).isSome = true ∧ boolQ Tryz.prog 32 = false ∧ zeroQ Tryz.prog 32 = some [.int .i64 0, .str [], .int .i64 0, .int .i64 0, .int .i64 0, .slice [] .clip] ∧ partsQ Tryz.prog 32 = true ∧ fieldQ Tryz.prog 32 0 = some (0, 1, false) ∧ placeQ Tryz.prog 32 0 = some (0, 1) ∧ fieldQ Tryz.prog 32 1 = some (1, 1, false) ∧ placeQ Tryz.prog 32 1 = some (1, 1) ∧ fieldQ Tryz.prog 32 2 = some (2, 1, false) ∧ placeQ Tryz.prog 32 2 = some (2, 1) ∧ fieldQ Tryz.prog 32 3 = some (3, 1, false) ∧ placeQ Tryz.prog 32 3 = some (3, 1) ∧ fieldQ Tryz.prog 32 4 = some (4, 1, false) ∧ placeQ Tryz.prog 32 4 = some (4, 1) ∧ fieldQ Tryz.prog 32 5 = some (5, 1, false) ∧ placeQ Tryz.prog 32 5 = some (5, 1) ∧ ifcQ Tryz.prog 32 = false ∧ concQ Tryz.prog 32 = true ∧ Tryz.prog.bytesOf 32 = 72 := by
  and_intros <;> kernel_rfl
@[simp] theorem Ty33 : Tryz.prog.cellsOf 33 = 6 ∧ aggQ Tryz.prog 33 = true ∧ knownQ Tryz.prog 33 = true ∧ (Tryz.prog.info? 33).isSome = true ∧ boolQ Tryz.prog 33 = false ∧ zeroQ Tryz.prog 33 = some [.int .i64 0, .str [], .int .i64 0, .int .i64 0, .int .i64 0, .slice [] .clip] ∧ partsQ Tryz.prog 33 = true ∧ fieldQ Tryz.prog 33 0 = some (0, 1, false) ∧ placeQ Tryz.prog 33 0 = some (0, 1) ∧ fieldQ Tryz.prog 33 1 = some (1, 1, false) ∧ placeQ Tryz.prog 33 1 = some (1, 1) ∧ fieldQ Tryz.prog 33 2 = some (2, 1, false) ∧ placeQ Tryz.prog 33 2 = some (2, 1) ∧ fieldQ Tryz.prog 33 3 = some (3, 1, false) ∧ placeQ Tryz.prog 33 3 = some (3, 1) ∧ fieldQ Tryz.prog 33 4 = some (4, 1, false) ∧ placeQ Tryz.prog 33 4 = some (4, 1) ∧ fieldQ Tryz.prog 33 5 = some (5, 1, false) ∧ placeQ Tryz.prog 33 5 = some (5, 1) ∧ ifcQ Tryz.prog 33 = false ∧ concQ Tryz.prog 33 = true ∧ Tryz.prog.bytesOf 33 = 72 := by
  and_intros <;> kernel_rfl
@[simp] theorem Ty34 : Tryz.prog.cellsOf 34 = 1 ∧ aggQ Tryz.prog 34 = false ∧ knownQ Tryz.prog 34 = true ∧ (Tryz.prog.info? 34).isSome = true ∧ boolQ Tryz.prog 34 = false ∧ zeroQ Tryz.prog 34 = some [.slice [] .clip] ∧ sliceQ Tryz.prog 34 = some 123 ∧ Tryz.prog.underlying 34 = some (.slice 123) ∧ (sliceQ Tryz.prog 34).isSome = true ∧ ifcQ Tryz.prog 34 = false ∧ concQ Tryz.prog 34 = true ∧ Tryz.prog.bytesOf 34 = 24 := by
  and_intros <;> kernel_rfl
@[simp] theorem Ty35 : Tryz.prog.cellsOf 35 = 1 ∧ aggQ Tryz.prog 35 = false ∧ knownQ Tryz.prog 35 = true ∧ (Tryz.prog.info? 35).isSome = true ∧ boolQ Tryz.prog 35 = false ∧ zeroQ Tryz.prog 35 = some [.slice [] .clip] ∧ sliceQ Tryz.prog 35 = some 60 ∧ Tryz.prog.underlying 35 = some (.slice 60) ∧ (sliceQ Tryz.prog 35).isSome = true ∧ ifcQ Tryz.prog 35 = false ∧ concQ Tryz.prog 35 = true ∧ Tryz.prog.bytesOf 35 = 24 := by
  and_intros <;> kernel_rfl
@[simp] theorem Ty36 : Tryz.prog.cellsOf 36 = 17 ∧ aggQ Tryz.prog 36 = true ∧ knownQ Tryz.prog 36 = true ∧ (Tryz.prog.info? 36).isSome = true ∧ boolQ Tryz.prog 36 = false ∧ zeroQ Tryz.prog 36 = some [.str [], .int .i64 0, .str [], .int .i64 0, .int .i64 0, .int .i64 0, .slice [] .clip, .int .i64 0, .str [], .int .i64 0, .int .i64 0, .int .i64 0, .slice [] .clip, .slice [] .clip, .slice [] .clip, .slice [] .clip, .slice [] .clip] ∧ partsQ Tryz.prog 36 = true ∧ fieldQ Tryz.prog 36 0 = some (0, 1, false) ∧ placeQ Tryz.prog 36 0 = some (0, 1) ∧ fieldQ Tryz.prog 36 1 = some (1, 6, true) ∧ placeQ Tryz.prog 36 1 = some (1, 6) ∧ fieldQ Tryz.prog 36 2 = some (7, 6, true) ∧ placeQ Tryz.prog 36 2 = some (7, 6) ∧ fieldQ Tryz.prog 36 3 = some (13, 1, false) ∧ placeQ Tryz.prog 36 3 = some (13, 1) ∧ fieldQ Tryz.prog 36 4 = some (14, 1, false) ∧ placeQ Tryz.prog 36 4 = some (14, 1) ∧ fieldQ Tryz.prog 36 5 = some (15, 1, false) ∧ placeQ Tryz.prog 36 5 = some (15, 1) ∧ fieldQ Tryz.prog 36 6 = some (16, 1, false) ∧ placeQ Tryz.prog 36 6 = some (16, 1) ∧ ifcQ Tryz.prog 36 = false ∧ concQ Tryz.prog 36 = true ∧ Tryz.prog.bytesOf 36 = 256 := by
  and_intros <;> kernel_rfl
@[simp] theorem Ty37 : Tryz.prog.cellsOf 37 = 17 ∧ aggQ Tryz.prog 37 = true ∧ knownQ Tryz.prog 37 = true ∧ (Tryz.prog.info? 37).isSome = true ∧ boolQ Tryz.prog 37 = false ∧ zeroQ Tryz.prog 37 = some [.str [], .int .i64 0, .str [], .int .i64 0, .int .i64 0, .int .i64 0, .slice [] .clip, .int .i64 0, .str [], .int .i64 0, .int .i64 0, .int .i64 0, .slice [] .clip, .slice [] .clip, .slice [] .clip, .slice [] .clip, .slice [] .clip] ∧ partsQ Tryz.prog 37 = true ∧ fieldQ Tryz.prog 37 0 = some (0, 1, false) ∧ placeQ Tryz.prog 37 0 = some (0, 1) ∧ fieldQ Tryz.prog 37 1 = some (1, 6, true) ∧ placeQ Tryz.prog 37 1 = some (1, 6) ∧ fieldQ Tryz.prog 37 2 = some (7, 6, true) ∧ placeQ Tryz.prog 37 2 = some (7, 6) ∧ fieldQ Tryz.prog 37 3 = some (13, 1, false) ∧ placeQ Tryz.prog 37 3 = some (13, 1) ∧ fieldQ Tryz.prog 37 4 = some (14, 1, false) ∧ placeQ Tryz.prog 37 4 = some (14, 1) ∧ fieldQ Tryz.prog 37 5 = some (15, 1, false) ∧ placeQ Tryz.prog 37 5 = some (15, 1) ∧ fieldQ Tryz.prog 37 6 = some (16, 1, false) ∧ placeQ Tryz.prog 37 6 = some (16, 1) ∧ ifcQ Tryz.prog 37 = false ∧ concQ Tryz.prog 37 = true ∧ Tryz.prog.bytesOf 37 = 256 := by
  and_intros <;> kernel_rfl
@[simp] theorem Ty45 : Tryz.prog.cellsOf 45 = 1 ∧ aggQ Tryz.prog 45 = false ∧ knownQ Tryz.prog 45 = true ∧ (Tryz.prog.info? 45).isSome = true ∧ boolQ Tryz.prog 45 = false ∧ zeroQ Tryz.prog 45 = some [.nilif] ∧ ifcQ Tryz.prog 45 = true ∧ concQ Tryz.prog 45 = false ∧ Tryz.prog.bytesOf 45 = 16 := by
  and_intros <;> kernel_rfl
@[simp] theorem Ty46 : Tryz.prog.cellsOf 46 = 1 ∧ aggQ Tryz.prog 46 = false ∧ knownQ Tryz.prog 46 = true ∧ (Tryz.prog.info? 46).isSome = true ∧ boolQ Tryz.prog 46 = false ∧ zeroQ Tryz.prog 46 = some [.nilif] ∧ ifcQ Tryz.prog 46 = true ∧ concQ Tryz.prog 46 = false ∧ Tryz.prog.bytesOf 46 = 16 := by
  and_intros <;> kernel_rfl
@[simp] theorem Ty59 : Tryz.prog.cellsOf 59 = 5 ∧ aggQ Tryz.prog 59 = true ∧ knownQ Tryz.prog 59 = true ∧ (Tryz.prog.info? 59).isSome = true ∧ boolQ Tryz.prog 59 = false ∧ zeroQ Tryz.prog 59 = some [.str [], .str [], .str [], .int .i64 0, .bool false] ∧ partsQ Tryz.prog 59 = true ∧ fieldQ Tryz.prog 59 0 = some (0, 1, false) ∧ placeQ Tryz.prog 59 0 = some (0, 1) ∧ fieldQ Tryz.prog 59 1 = some (1, 1, false) ∧ placeQ Tryz.prog 59 1 = some (1, 1) ∧ fieldQ Tryz.prog 59 2 = some (2, 1, false) ∧ placeQ Tryz.prog 59 2 = some (2, 1) ∧ fieldQ Tryz.prog 59 3 = some (3, 1, false) ∧ placeQ Tryz.prog 59 3 = some (3, 1) ∧ fieldQ Tryz.prog 59 4 = some (4, 1, false) ∧ placeQ Tryz.prog 59 4 = some (4, 1) ∧ ifcQ Tryz.prog 59 = false ∧ concQ Tryz.prog 59 = true ∧ Tryz.prog.bytesOf 59 = 64 := by
  and_intros <;> kernel_rfl
@[simp] theorem Ty60 : Tryz.prog.cellsOf 60 = 5 ∧ aggQ Tryz.prog 60 = true ∧ knownQ Tryz.prog 60 = true ∧ (Tryz.prog.info? 60).isSome = true ∧ boolQ Tryz.prog 60 = false ∧ zeroQ Tryz.prog 60 = some [.str [], .str [], .str [], .int .i64 0, .bool false] ∧ partsQ Tryz.prog 60 = true ∧ fieldQ Tryz.prog 60 0 = some (0, 1, false) ∧ placeQ Tryz.prog 60 0 = some (0, 1) ∧ fieldQ Tryz.prog 60 1 = some (1, 1, false) ∧ placeQ Tryz.prog 60 1 = some (1, 1) ∧ fieldQ Tryz.prog 60 2 = some (2, 1, false) ∧ placeQ Tryz.prog 60 2 = some (2, 1) ∧ fieldQ Tryz.prog 60 3 = some (3, 1, false) ∧ placeQ Tryz.prog 60 3 = some (3, 1) ∧ fieldQ Tryz.prog 60 4 = some (4, 1, false) ∧ placeQ Tryz.prog 60 4 = some (4, 1) ∧ ifcQ Tryz.prog 60 = false ∧ concQ Tryz.prog 60 = true ∧ Tryz.prog.bytesOf 60 = 64 := by
  and_intros <;> kernel_rfl
@[simp] theorem Ty65 : Tryz.prog.cellsOf 65 = 2 ∧ aggQ Tryz.prog 65 = true ∧ knownQ Tryz.prog 65 = true ∧ (Tryz.prog.info? 65).isSome = true ∧ boolQ Tryz.prog 65 = false ∧ zeroQ Tryz.prog 65 = some [.str [], .int .i64 0] ∧ partsQ Tryz.prog 65 = true ∧ fieldQ Tryz.prog 65 0 = some (0, 1, false) ∧ placeQ Tryz.prog 65 0 = some (0, 1) ∧ fieldQ Tryz.prog 65 1 = some (1, 1, false) ∧ placeQ Tryz.prog 65 1 = some (1, 1) ∧ ifcQ Tryz.prog 65 = false ∧ concQ Tryz.prog 65 = true ∧ Tryz.prog.bytesOf 65 = 24 := by
  and_intros <;> kernel_rfl
@[simp] theorem Ty66 : Tryz.prog.cellsOf 66 = 2 ∧ aggQ Tryz.prog 66 = true ∧ knownQ Tryz.prog 66 = true ∧ (Tryz.prog.info? 66).isSome = true ∧ boolQ Tryz.prog 66 = false ∧ zeroQ Tryz.prog 66 = some [.str [], .int .i64 0] ∧ partsQ Tryz.prog 66 = true ∧ fieldQ Tryz.prog 66 0 = some (0, 1, false) ∧ placeQ Tryz.prog 66 0 = some (0, 1) ∧ fieldQ Tryz.prog 66 1 = some (1, 1, false) ∧ placeQ Tryz.prog 66 1 = some (1, 1) ∧ ifcQ Tryz.prog 66 = false ∧ concQ Tryz.prog 66 = true ∧ Tryz.prog.bytesOf 66 = 24 := by
  and_intros <;> kernel_rfl
@[simp] theorem Ty71 : Tryz.prog.cellsOf 71 = 1 ∧ aggQ Tryz.prog 71 = false ∧ knownQ Tryz.prog 71 = true ∧ (Tryz.prog.info? 71).isSome = true ∧ boolQ Tryz.prog 71 = false ∧ zeroQ Tryz.prog 71 = some [.nilp] ∧ ifcQ Tryz.prog 71 = false ∧ concQ Tryz.prog 71 = true ∧ ptrQ Tryz.prog 71 = true ∧ Tryz.prog.bytesOf 71 = 8 := by
  and_intros <;> kernel_rfl
@[simp] theorem Ty73 : Tryz.prog.cellsOf 73 = 1 ∧ aggQ Tryz.prog 73 = false ∧ knownQ Tryz.prog 73 = true ∧ (Tryz.prog.info? 73).isSome = true ∧ boolQ Tryz.prog 73 = false ∧ zeroQ Tryz.prog 73 = some [.slice [] .clip] ∧ sliceQ Tryz.prog 73 = some 5 ∧ Tryz.prog.underlying 73 = some (.slice 5) ∧ (sliceQ Tryz.prog 73).isSome = true ∧ ifcQ Tryz.prog 73 = false ∧ concQ Tryz.prog 73 = true ∧ Tryz.prog.bytesOf 73 = 24 := by
  and_intros <;> kernel_rfl
@[simp] theorem Ty74 : Tryz.prog.cellsOf 74 = 2 ∧ aggQ Tryz.prog 74 = true ∧ knownQ Tryz.prog 74 = true ∧ (Tryz.prog.info? 74).isSome = true ∧ boolQ Tryz.prog 74 = false ∧ zeroQ Tryz.prog 74 = some [.nilp, .slice [] .clip] ∧ partsQ Tryz.prog 74 = true ∧ fieldQ Tryz.prog 74 0 = some (0, 1, false) ∧ placeQ Tryz.prog 74 0 = some (0, 1) ∧ fieldQ Tryz.prog 74 1 = some (1, 1, false) ∧ placeQ Tryz.prog 74 1 = some (1, 1) ∧ ifcQ Tryz.prog 74 = false ∧ concQ Tryz.prog 74 = true ∧ Tryz.prog.bytesOf 74 = 32 := by
  and_intros <;> kernel_rfl
@[simp] theorem Ty75 : Tryz.prog.cellsOf 75 = 2 ∧ aggQ Tryz.prog 75 = true ∧ knownQ Tryz.prog 75 = true ∧ (Tryz.prog.info? 75).isSome = true ∧ boolQ Tryz.prog 75 = false ∧ zeroQ Tryz.prog 75 = some [.nilp, .slice [] .clip] ∧ partsQ Tryz.prog 75 = true ∧ fieldQ Tryz.prog 75 0 = some (0, 1, false) ∧ placeQ Tryz.prog 75 0 = some (0, 1) ∧ fieldQ Tryz.prog 75 1 = some (1, 1, false) ∧ placeQ Tryz.prog 75 1 = some (1, 1) ∧ ifcQ Tryz.prog 75 = false ∧ concQ Tryz.prog 75 = true ∧ Tryz.prog.bytesOf 75 = 32 := by
  and_intros <;> kernel_rfl
@[simp] theorem Ty76 : Tryz.prog.cellsOf 76 = 2 ∧ aggQ Tryz.prog 76 = true ∧ knownQ Tryz.prog 76 = true ∧ (Tryz.prog.info? 76).isSome = true ∧ boolQ Tryz.prog 76 = false ∧ zeroQ Tryz.prog 76 = some [.nilp, .slice [] .clip] ∧ partsQ Tryz.prog 76 = true ∧ fieldQ Tryz.prog 76 0 = some (0, 2, true) ∧ placeQ Tryz.prog 76 0 = some (0, 2) ∧ ifcQ Tryz.prog 76 = false ∧ concQ Tryz.prog 76 = true ∧ Tryz.prog.bytesOf 76 = 32 := by
  and_intros <;> kernel_rfl
@[simp] theorem Ty77 : Tryz.prog.cellsOf 77 = 2 ∧ aggQ Tryz.prog 77 = true ∧ knownQ Tryz.prog 77 = true ∧ (Tryz.prog.info? 77).isSome = true ∧ boolQ Tryz.prog 77 = false ∧ zeroQ Tryz.prog 77 = some [.nilp, .slice [] .clip] ∧ partsQ Tryz.prog 77 = true ∧ fieldQ Tryz.prog 77 0 = some (0, 2, true) ∧ placeQ Tryz.prog 77 0 = some (0, 2) ∧ ifcQ Tryz.prog 77 = false ∧ concQ Tryz.prog 77 = true ∧ Tryz.prog.bytesOf 77 = 32 := by
  and_intros <;> kernel_rfl
@[simp] theorem Ty78 : Tryz.prog.cellsOf 78 = 1 ∧ aggQ Tryz.prog 78 = false ∧ knownQ Tryz.prog 78 = true ∧ (Tryz.prog.info? 78).isSome = true ∧ boolQ Tryz.prog 78 = false ∧ zeroQ Tryz.prog 78 = some [.slice [] .clip] ∧ sliceQ Tryz.prog 78 = some 9 ∧ Tryz.prog.underlying 78 = some (.slice 9) ∧ (sliceQ Tryz.prog 78).isSome = true ∧ ifcQ Tryz.prog 78 = false ∧ concQ Tryz.prog 78 = true ∧ Tryz.prog.bytesOf 78 = 24 := by
  and_intros <;> kernel_rfl
@[simp] theorem Ty90 : Tryz.prog.cellsOf 90 = 1 ∧ aggQ Tryz.prog 90 = false ∧ knownQ Tryz.prog 90 = true ∧ (Tryz.prog.info? 90).isSome = true ∧ boolQ Tryz.prog 90 = false ∧ zeroQ Tryz.prog 90 = some [.slice [] .clip] ∧ sliceQ Tryz.prog 90 = some 139 ∧ Tryz.prog.underlying 90 = some (.slice 139) ∧ (sliceQ Tryz.prog 90).isSome = true ∧ ifcQ Tryz.prog 90 = false ∧ concQ Tryz.prog 90 = true ∧ Tryz.prog.bytesOf 90 = 24 := by
  and_intros <;> kernel_rfl
@[simp] theorem Ty93 : Tryz.prog.cellsOf 93 = 1 ∧ aggQ Tryz.prog 93 = true ∧ knownQ Tryz.prog 93 = true ∧ (Tryz.prog.info? 93).isSome = true ∧ boolQ Tryz.prog 93 = false ∧ zeroQ Tryz.prog 93 = some [.nilif] ∧ partsQ Tryz.prog 93 = true ∧ fieldQ Tryz.prog 93 0 = some (0, 1, false) ∧ placeQ Tryz.prog 93 0 = some (0, 1) ∧ ifcQ Tryz.prog 93 = false ∧ concQ Tryz.prog 93 = true ∧ Tryz.prog.bytesOf 93 = 16 := by
  and_intros <;> kernel_rfl
@[simp] theorem Ty94 : Tryz.prog.cellsOf 94 = 1 ∧ aggQ Tryz.prog 94 = true ∧ knownQ Tryz.prog 94 = true ∧ (Tryz.prog.info? 94).isSome = true ∧ boolQ Tryz.prog 94 = false ∧ zeroQ Tryz.prog 94 = some [.nilif] ∧ partsQ Tryz.prog 94 = true ∧ fieldQ Tryz.prog 94 0 = some (0, 1, false) ∧ placeQ Tryz.prog 94 0 = some (0, 1) ∧ ifcQ Tryz.prog 94 = false ∧ concQ Tryz.prog 94 = true ∧ Tryz.prog.bytesOf 94 = 16 := by
  and_intros <;> kernel_rfl
@[simp] theorem Ty96 : Tryz.prog.cellsOf 96 = 1 ∧ aggQ Tryz.prog 96 = false ∧ knownQ Tryz.prog 96 = true ∧ (Tryz.prog.info? 96).isSome = true ∧ boolQ Tryz.prog 96 = false ∧ zeroQ Tryz.prog 96 = some [.nilp] ∧ ifcQ Tryz.prog 96 = false ∧ concQ Tryz.prog 96 = true ∧ ptrQ Tryz.prog 96 = true ∧ Tryz.prog.bytesOf 96 = 8 := by
  and_intros <;> kernel_rfl
@[simp] theorem Ty98 : Tryz.prog.cellsOf 98 = 2 ∧ aggQ Tryz.prog 98 = true ∧ knownQ Tryz.prog 98 = true ∧ (Tryz.prog.info? 98).isSome = true ∧ boolQ Tryz.prog 98 = false ∧ zeroQ Tryz.prog 98 = some [.slice [] .clip, .int .i64 0] ∧ partsQ Tryz.prog 98 = true ∧ fieldQ Tryz.prog 98 0 = some (0, 1, false) ∧ placeQ Tryz.prog 98 0 = some (0, 1) ∧ fieldQ Tryz.prog 98 1 = some (1, 1, false) ∧ placeQ Tryz.prog 98 1 = some (1, 1) ∧ ifcQ Tryz.prog 98 = false ∧ concQ Tryz.prog 98 = true ∧ Tryz.prog.bytesOf 98 = 32 := by
  and_intros <;> kernel_rfl
@[simp] theorem Ty102 : Tryz.prog.cellsOf 102 = 1 ∧ aggQ Tryz.prog 102 = false ∧ knownQ Tryz.prog 102 = true ∧ (Tryz.prog.info? 102).isSome = true ∧ boolQ Tryz.prog 102 = false ∧ zeroQ Tryz.prog 102 = some [.nilp] ∧ ifcQ Tryz.prog 102 = false ∧ concQ Tryz.prog 102 = true ∧ ptrQ Tryz.prog 102 = true ∧ Tryz.prog.bytesOf 102 = 8 := by
  and_intros <;> kernel_rfl
@[simp] theorem Ty103 : Tryz.prog.cellsOf 103 = 1 ∧ aggQ Tryz.prog 103 = false ∧ knownQ Tryz.prog 103 = true ∧ (Tryz.prog.info? 103).isSome = true ∧ boolQ Tryz.prog 103 = false ∧ zeroQ Tryz.prog 103 = some [.nilp] ∧ ifcQ Tryz.prog 103 = false ∧ concQ Tryz.prog 103 = true ∧ ptrQ Tryz.prog 103 = true ∧ Tryz.prog.bytesOf 103 = 8 := by
  and_intros <;> kernel_rfl
@[simp] theorem Ty104 : Tryz.prog.cellsOf 104 = 1 ∧ aggQ Tryz.prog 104 = false ∧ knownQ Tryz.prog 104 = true ∧ (Tryz.prog.info? 104).isSome = true ∧ boolQ Tryz.prog 104 = false ∧ zeroQ Tryz.prog 104 = some [.nilp] ∧ ifcQ Tryz.prog 104 = false ∧ concQ Tryz.prog 104 = true ∧ ptrQ Tryz.prog 104 = true ∧ Tryz.prog.bytesOf 104 = 8 := by
  and_intros <;> kernel_rfl
@[simp] theorem Ty106 : Tryz.prog.cellsOf 106 = 3 ∧ aggQ Tryz.prog 106 = true ∧ knownQ Tryz.prog 106 = true ∧ (Tryz.prog.info? 106).isSome = true ∧ boolQ Tryz.prog 106 = false ∧ zeroQ Tryz.prog 106 = some [.int .i64 0, .int .i64 0, .nilif] ∧ partsQ Tryz.prog 106 = true ∧ fieldQ Tryz.prog 106 0 = some (0, 1, false) ∧ placeQ Tryz.prog 106 0 = some (0, 1) ∧ fieldQ Tryz.prog 106 1 = some (1, 1, false) ∧ placeQ Tryz.prog 106 1 = some (1, 1) ∧ fieldQ Tryz.prog 106 2 = some (2, 1, false) ∧ placeQ Tryz.prog 106 2 = some (2, 1) ∧ ifcQ Tryz.prog 106 = false ∧ concQ Tryz.prog 106 = true ∧ Tryz.prog.bytesOf 106 = 32 := by
  and_intros <;> kernel_rfl
@[simp] theorem Ty112 : Tryz.prog.cellsOf 112 = 12 ∧ aggQ Tryz.prog 112 = true ∧ knownQ Tryz.prog 112 = true ∧ (Tryz.prog.info? 112).isSome = true ∧ boolQ Tryz.prog 112 = false ∧ zeroQ Tryz.prog 112 = some [.int .i64 0, .str [], .int .i64 0, .int .i64 0, .int .i64 0, .slice [] .clip, .int .i64 0, .str [], .int .i64 0, .int .i64 0, .int .i64 0, .slice [] .clip] ∧ partsQ Tryz.prog 112 = true ∧ arrQ Tryz.prog 112 = some (2, 33) ∧ sliceQ Tryz.prog 112 = none ∧ ifcQ Tryz.prog 112 = false ∧ concQ Tryz.prog 112 = true ∧ Tryz.prog.bytesOf 112 = 144 := by
  and_intros <;> kernel_rfl
@[simp] theorem Ty114 : Tryz.prog.cellsOf 114 = 3 ∧ aggQ Tryz.prog 114 = true ∧ knownQ Tryz.prog 114 = true ∧ (Tryz.prog.info? 114).isSome = true ∧ boolQ Tryz.prog 114 = false ∧ zeroQ Tryz.prog 114 = some [.slice [] .clip, .slice [] .clip, .slice [] .clip] ∧ partsQ Tryz.prog 114 = true ∧ arrQ Tryz.prog 114 = some (3, 34) ∧ sliceQ Tryz.prog 114 = none ∧ ifcQ Tryz.prog 114 = false ∧ concQ Tryz.prog 114 = true ∧ Tryz.prog.bytesOf 114 = 72 := by
  and_intros <;> kernel_rfl
@[simp] theorem Ty123 : Tryz.prog.cellsOf 123 = 8 ∧ aggQ Tryz.prog 123 = true ∧ knownQ Tryz.prog 123 = true ∧ (Tryz.prog.info? 123).isSome = true ∧ boolQ Tryz.prog 123 = false ∧ zeroQ Tryz.prog 123 = some [.int .i64 0, .str [], .int .i64 0, .str [], .int .i64 0, .int .i64 0, .int .i64 0, .slice [] .clip] ∧ partsQ Tryz.prog 123 = true ∧ fieldQ Tryz.prog 123 0 = some (0, 1, false) ∧ placeQ Tryz.prog 123 0 = some (0, 1) ∧ fieldQ Tryz.prog 123 1 = some (1, 1, false) ∧ placeQ Tryz.prog 123 1 = some (1, 1) ∧ fieldQ Tryz.prog 123 2 = some (2, 6, true) ∧ placeQ Tryz.prog 123 2 = some (2, 6) ∧ ifcQ Tryz.prog 123 = false ∧ concQ Tryz.prog 123 = true ∧ Tryz.prog.bytesOf 123 = 96 := by
  and_intros <;> kernel_rfl
@[simp] theorem Ty131 : Tryz.prog.cellsOf 131 = 1 ∧ aggQ Tryz.prog 131 = false ∧ knownQ Tryz.prog 131 = true ∧ (Tryz.prog.info? 131).isSome = true ∧ boolQ Tryz.prog 131 = false ∧ zeroQ Tryz.prog 131 = some [.nilp] ∧ ifcQ Tryz.prog 131 = false ∧ concQ Tryz.prog 131 = true ∧ ptrQ Tryz.prog 131 = true ∧ Tryz.prog.bytesOf 131 = 8 := by
  and_intros <;> kernel_rfl
@[simp] theorem Ty133 : Tryz.prog.cellsOf 133 = 1 ∧ aggQ Tryz.prog 133 = false ∧ knownQ Tryz.prog 133 = true ∧ (Tryz.prog.info? 133).isSome = true ∧ boolQ Tryz.prog 133 = false ∧ zeroQ Tryz.prog 133 = some [.nilp] ∧ ifcQ Tryz.prog 133 = false ∧ concQ Tryz.prog 133 = true ∧ ptrQ Tryz.prog 133 = true ∧ Tryz.prog.bytesOf 133 = 8 := by
  and_intros <;> kernel_rfl
@[simp] theorem Ty135 : Tryz.prog.cellsOf 135 = 3 ∧ aggQ Tryz.prog 135 = true ∧ knownQ Tryz.prog 135 = true ∧ (Tryz.prog.info? 135).isSome = true ∧ boolQ Tryz.prog 135 = false ∧ zeroQ Tryz.prog 135 = some [.str [], .int .i64 0, .slice [] .clip] ∧ partsQ Tryz.prog 135 = true ∧ fieldQ Tryz.prog 135 0 = some (0, 1, false) ∧ placeQ Tryz.prog 135 0 = some (0, 1) ∧ fieldQ Tryz.prog 135 1 = some (1, 1, false) ∧ placeQ Tryz.prog 135 1 = some (1, 1) ∧ fieldQ Tryz.prog 135 2 = some (2, 1, false) ∧ placeQ Tryz.prog 135 2 = some (2, 1) ∧ ifcQ Tryz.prog 135 = false ∧ concQ Tryz.prog 135 = true ∧ Tryz.prog.bytesOf 135 = 48 := by
  and_intros <;> kernel_rfl
@[simp] theorem Ty139 : Tryz.prog.cellsOf 139 = 4 ∧ aggQ Tryz.prog 139 = true ∧ knownQ Tryz.prog 139 = true ∧ (Tryz.prog.info? 139).isSome = true ∧ boolQ Tryz.prog 139 = false ∧ zeroQ Tryz.prog 139 = some [.int .i64 0, .str [], .int .i64 0, .int .i64 0] ∧ partsQ Tryz.prog 139 = true ∧ fieldQ Tryz.prog 139 0 = some (0, 1, false) ∧ placeQ Tryz.prog 139 0 = some (0, 1) ∧ fieldQ Tryz.prog 139 1 = some (1, 1, false) ∧ placeQ Tryz.prog 139 1 = some (1, 1) ∧ fieldQ Tryz.prog 139 2 = some (2, 1, false) ∧ placeQ Tryz.prog 139 2 = some (2, 1) ∧ fieldQ Tryz.prog 139 3 = some (3, 1, false) ∧ placeQ Tryz.prog 139 3 = some (3, 1) ∧ ifcQ Tryz.prog 139 = false ∧ concQ Tryz.prog 139 = true ∧ Tryz.prog.bytesOf 139 = 40 := by
  and_intros <;> kernel_rfl
@[simp] theorem Ty167 : Tryz.prog.cellsOf 167 = 1 ∧ aggQ Tryz.prog 167 = false ∧ knownQ Tryz.prog 167 = true ∧ (Tryz.prog.info? 167).isSome = true ∧ boolQ Tryz.prog 167 = false ∧ zeroQ Tryz.prog 167 = some [.int .u64 0] ∧ intQ Tryz.prog 167 = some .u64 ∧ Tryz.prog.underlying 167 = some (.int .u64) ∧ strQ Tryz.prog 167 = false ∧ ifcQ Tryz.prog 167 = false ∧ concQ Tryz.prog 167 = true ∧ Tryz.prog.bytesOf 167 = 8 := by
  and_intros <;> kernel_rfl
@[simp] theorem Ty169 : Tryz.prog.cellsOf 169 = 7 ∧ aggQ Tryz.prog 169 = true ∧ knownQ Tryz.prog 169 = true ∧ (Tryz.prog.info? 169).isSome = true ∧ boolQ Tryz.prog 169 = false ∧ zeroQ Tryz.prog 169 = some [.str [], .str [], .str [], .str [], .str [], .str [], .str []] ∧ partsQ Tryz.prog 169 = true ∧ arrQ Tryz.prog 169 = some (7, 9) ∧ sliceQ Tryz.prog 169 = none ∧ ifcQ Tryz.prog 169 = false ∧ concQ Tryz.prog 169 = true ∧ Tryz.prog.bytesOf 169 = 112 := by
  and_intros <;> kernel_rfl
@[simp] theorem Ty174 : Tryz.prog.cellsOf 174 = 1 ∧ aggQ Tryz.prog 174 = false ∧ knownQ Tryz.prog 174 = true ∧ (Tryz.prog.info? 174).isSome = true ∧ boolQ Tryz.prog 174 = false ∧ zeroQ Tryz.prog 174 = some [.nilp] ∧ ifcQ Tryz.prog 174 = false ∧ concQ Tryz.prog 174 = true ∧ ptrQ Tryz.prog 174 = true ∧ Tryz.prog.bytesOf 174 = 8 := by
  and_intros <;> kernel_rfl
@[simp] theorem Ty195 : Tryz.prog.cellsOf 195 = 3 ∧ aggQ Tryz.prog 195 = true ∧ knownQ Tryz.prog 195 = true ∧ (Tryz.prog.info? 195).isSome = true ∧ boolQ Tryz.prog 195 = false ∧ zeroQ Tryz.prog 195 = some [.str [], .str [], .str []] ∧ partsQ Tryz.prog 195 = true ∧ arrQ Tryz.prog 195 = some (3, 9) ∧ sliceQ Tryz.prog 195 = none ∧ ifcQ Tryz.prog 195 = false ∧ concQ Tryz.prog 195 = true ∧ Tryz.prog.bytesOf 195 = 48 := by
  and_intros <;> kernel_rfl
@[simp] theorem Ty200 : Tryz.prog.cellsOf 200 = 1 ∧ aggQ Tryz.prog 200 = false ∧ knownQ Tryz.prog 200 = true ∧ (Tryz.prog.info? 200).isSome = true ∧ boolQ Tryz.prog 200 = false ∧ zeroQ Tryz.prog 200 = some [.slice [] .clip] ∧ sliceQ Tryz.prog 200 = some 3 ∧ Tryz.prog.underlying 200 = some (.slice 3) ∧ (sliceQ Tryz.prog 200).isSome = true ∧ ifcQ Tryz.prog 200 = false ∧ concQ Tryz.prog 200 = true ∧ Tryz.prog.bytesOf 200 = 24 := by
  and_intros <;> kernel_rfl
@[simp] theorem Ty207 : Tryz.prog.cellsOf 207 = 1 ∧ aggQ Tryz.prog 207 = false ∧ knownQ Tryz.prog 207 = true ∧ (Tryz.prog.info? 207).isSome = true ∧ boolQ Tryz.prog 207 = false ∧ zeroQ Tryz.prog 207 = some [.nilp] ∧ ifcQ Tryz.prog 207 = false ∧ concQ Tryz.prog 207 = true ∧ ptrQ Tryz.prog 207 = true ∧ Tryz.prog.bytesOf 207 = 8 := by
  and_intros <;> kernel_rfl
@[simp] theorem Ty209 : Tryz.prog.cellsOf 209 = 3 ∧ aggQ Tryz.prog 209 = true ∧ knownQ Tryz.prog 209 = true ∧ (Tryz.prog.info? 209).isSome = true ∧ boolQ Tryz.prog 209 = false ∧ zeroQ Tryz.prog 209 = some [.slice [] .clip, .int .i64 0, .int .i64 0] ∧ partsQ Tryz.prog 209 = true ∧ fieldQ Tryz.prog 209 0 = some (0, 1, false) ∧ placeQ Tryz.prog 209 0 = some (0, 1) ∧ fieldQ Tryz.prog 209 1 = some (1, 1, false) ∧ placeQ Tryz.prog 209 1 = some (1, 1) ∧ fieldQ Tryz.prog 209 2 = some (2, 1, false) ∧ placeQ Tryz.prog 209 2 = some (2, 1) ∧ ifcQ Tryz.prog 209 = false ∧ concQ Tryz.prog 209 = true ∧ Tryz.prog.bytesOf 209 = 40 := by
  and_intros <;> kernel_rfl
@[simp] theorem Ty211 : Tryz.prog.cellsOf 211 = 2 ∧ aggQ Tryz.prog 211 = true ∧ knownQ Tryz.prog 211 = true ∧ (Tryz.prog.info? 211).isSome = true ∧ boolQ Tryz.prog 211 = false ∧ zeroQ Tryz.prog 211 = some [.int .i64 0, .int .i64 0] ∧ partsQ Tryz.prog 211 = true ∧ fieldQ Tryz.prog 211 0 = some (0, 1, false) ∧ placeQ Tryz.prog 211 0 = some (0, 1) ∧ fieldQ Tryz.prog 211 1 = some (1, 1, false) ∧ placeQ Tryz.prog 211 1 = some (1, 1) ∧ ifcQ Tryz.prog 211 = false ∧ concQ Tryz.prog 211 = true ∧ Tryz.prog.bytesOf 211 = 16 := by
  and_intros <;> kernel_rfl
end Go.Proofs.YtcpoinfdnimanaaGreatDoor.PT
