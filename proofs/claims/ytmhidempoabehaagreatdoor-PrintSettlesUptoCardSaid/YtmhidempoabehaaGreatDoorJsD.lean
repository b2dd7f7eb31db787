/- Joined: Bulk, ExA, Shelf, IndX, ShelfJ, JoinX, DeA, PtJ, PtK, PtL, PtM, PtN, PtO, PtP, PtQ, PtR, NfA, NfB, NfC, NfD, NfE, NfF, NfG, NfH, PuS, SmA, DlA, DlB, DnA, DnB, DnC. No condition beyond those of its lemmas. -/
import Derived.Test.YtmhidempoabehaaGreatDoorRows
import Derived.Test.YtmhidempoabehaaGreatDoorJsC
import Derived.KernelRfl
import Derived.Shelf.Small.Strs
import Derived.Shelf.Strings.Search1
import Derived.Shelf.Bits.Mul64
import Derived.Test.YtmhidempoabehaaGreatDoorProg
import Derived.Shelf.Strings.OnBuilder
/-
  FOR A PROOF OF AN '..UptoSaid': WHAT THE BOUND GIVES. Copy it as <Name>Bulk.lean (put your seat's Name for YtmhidempoabehaaGreatDoor, the bound of 'uptoSmall' for 1048576), name it in GOCLAIM.json's 'order' behind <Name>Rows. By an AI agent, Sun Nov 15 2026. No person has read it. No macro, syntax, notation, axiom, sorry.
-/
namespace Go.Proofs.YtmhidempoabehaaGreatDoor.bulks

theorem one_le {H : Type} (d : DataW H) : 1 ≤ Rows.uptoBulk d := by
  cases d with
  | lit l => cases l <;> simp [Rows.uptoBulk]
  | nil => simp [Rows.uptoBulk]
  | ptr d => simp [Rows.uptoBulk]
  | slice elems spare => simp [Rows.uptoBulk]
  | agg parts => simp [Rows.uptoBulk]
  | iface t d => simp [Rows.uptoBulk]
  | map entries => simp [Rows.uptoBulk]
  | held h => simp [Rows.uptoBulk]

/-- a part's bulk is at most the whole's -/
theorem part_le {H : Type} {d : DataW H} {l : List (DataW H)} (h : d ∈ l) : Rows.uptoBulk d ≤ Rows.uptoBulkAll l := by
  induction l with
  | nil => cases h
  | cons x r ih =>
    simp only [Rows.uptoBulkAll]
    cases List.mem_cons.1 h with
    | inl e => subst e; omega
    | inr e => have := ih e; omega

theorem append {H : Type} (l r : List (DataW H)) : Rows.uptoBulkAll (l ++ r) = Rows.uptoBulkAll l + Rows.uptoBulkAll r := by
  induction l with
  | nil => simp [Rows.uptoBulkAll]
  | cons x l ih => simp only [List.cons_append, Rows.uptoBulkAll, ih]; omega

/-- so many values at the most -/
theorem length_le {H : Type} (l : List (DataW H)) : l.length ≤ Rows.uptoBulkAll l := by
  induction l with
  | nil => simp [Rows.uptoBulkAll]
  | cons x r ih => have := one_le x; simp only [Rows.uptoBulkAll, List.length_cons]; omega

/-- a slice's places, and what they hold -/
theorem slice_le {H : Type} (elems spare : List (DataW H)) : elems.length + spare.length + 1 ≤ Rows.uptoBulk (.slice elems spare) := by
  have h1 := length_le elems
  have h2 := length_le spare
  simp only [Rows.uptoBulk]
  omega
theorem slice_elems {H : Type} (elems spare : List (DataW H)) : Rows.uptoBulkAll elems + 1 ≤ Rows.uptoBulk (.slice elems spare) := by
  simp only [Rows.uptoBulk]
  omega

/-- a string's letters -/
theorem string_eq {H : Type} (bytes : List UInt8) : Rows.uptoBulk (DataW.lit (H := H) (.string bytes)) = bytes.length + 1 := by
  simp [Rows.uptoBulk]

/-- THE BOUND, as the builder hands it over ('hk') -/
theorem bound {H : Type} {l : List (DataW H)} (hk : Rows.uptoSmall H l = true) : Rows.uptoBulkAll l ≤ 1048576 := by
  simpa [Rows.uptoSmall] using hk

/-- ROOM: a slice of n elements of b bytes, grown by append: below the 2^48 bytes that append, make and a Builder bear. Here n up to 2^21, b up to 4,096: put your own numbers. -/
theorem room {n b : Nat} (hn : n ≤ 2097152) (hb : b ≤ 4096) : (n + n / 4 + 192) * b ≤ 281474976710656 := by
  have h : (n + n / 4 + 192) * b ≤ 2621632 * 4096 := Nat.mul_le_mul (by omega) hb
  omega

end Go.Proofs.YtmhidempoabehaaGreatDoor.bulks
/- An expression: its types, what it is to the evaluator, what an input of it reads as. No condition. -/
namespace Go.Proofs.YtmhidempoabehaaGreatDoor.EX
set_option linter.unusedVariables false
set_option linter.unusedSimpArgs false
open Go AE
open Go.ChangeShapes Go.WideShapes Go.RowKit
set_option maxRecDepth 100000

theorem c24 : Tryz.prog.cellsOf 25 = 6 := by kernel_rfl
theorem c22 : Tryz.prog.cellsOf 23 = 1 := by kernel_rfl
theorem c3 : Tryz.prog.cellsOf 3 = 1 := by kernel_rfl
theorem c2 : Tryz.prog.cellsOf 2 = 1 := by kernel_rfl
theorem a24 : aggQ Tryz.prog 25 = true := by kernel_rfl
theorem a22 : aggQ Tryz.prog 23 = false := by kernel_rfl
theorem a3 : aggQ Tryz.prog 3 = false := by kernel_rfl
theorem a2 : aggQ Tryz.prog 2 = false := by kernel_rfl
theorem k24 : knownQ Tryz.prog 25 = true := by kernel_rfl
theorem k22 : knownQ Tryz.prog 23 = true := by kernel_rfl
theorem k3 : knownQ Tryz.prog 3 = true := by kernel_rfl
theorem k2 : knownQ Tryz.prog 2 = true := by kernel_rfl
theorem fq0 : fieldQ Tryz.prog 25 0 = some (0, 1, false) := by kernel_rfl
theorem fq4 : fieldQ Tryz.prog 25 4 = some (4, 1, false) := by kernel_rfl
theorem fq5 : fieldQ Tryz.prog 25 5 = some (5, 1, false) := by kernel_rfl
theorem sq22 : sliceQ Tryz.prog 23 = some 25 := by kernel_rfl
theorem z24 : zeroQ Tryz.prog 25 = some [.int .i64 0, .str [], .int .i64 0, .int .i64 0, .int .i64 0, .slice [] .clip] := by kernel_rfl
theorem z3 : zeroQ Tryz.prog 3 = some [.int .i64 0] := by kernel_rfl
theorem z2 : zeroQ Tryz.prog 2 = some [.int .i64 0] := by kernel_rfl
theorem iq3 : intQ Tryz.prog 3 = some .i64 := by kernel_rfl
theorem bq3 : boolQ Tryz.prog 3 = false := by kernel_rfl
theorem bq4 : boolQ Tryz.prog 4 = true := by kernel_rfl
theorem bq2 : boolQ Tryz.prog 2 = false := by kernel_rfl

attribute [go_sem] c24 c22 c3 c2 a24 a22 a3 a2 k24 k22 k3 k2 fq0 fq4 fq5 sq22 z24 z3 z2 iq3 bq3 bq4 bq2

theorem i3 : (Tryz.prog.info? 3).isSome = true := by kernel_rfl
theorem i24 : (Tryz.prog.info? 25).isSome = true := by kernel_rfl
theorem i2 : (Tryz.prog.info? 2).isSome = true := by kernel_rfl
theorem ii24 : ∃ x, Tryz.prog.info? 25 = some x := Option.isSome_iff_exists.1 i24

theorem c9 : Tryz.prog.cellsOf 9 = 1 := by kernel_rfl
theorem u2 : Tryz.prog.underlying 2 = some (.int .i64) := by kernel_rfl
theorem u3 : Tryz.prog.underlying 3 = some (.int .i64) := by kernel_rfl
theorem u9 : Tryz.prog.underlying 9 = some .string := by kernel_rfl
theorem u22 : Tryz.prog.underlying 23 = some (.slice 25) := by kernel_rfl

/-- an expression -/
inductive X where
  | mk (k : Int) (nm : List UInt8) (n lo hi : Int) (tok : Bool) (kids : List X)
def tokOf : Bool → Tok
  | true => .clip
  | false => .non
mutual
def X.emb : X → AV
  | .mk k nm n lo hi tok kids => .agg [.int .i64 k, .str nm, .int .i64 n, .int .i64 lo, .int .i64 hi, .slice (embL kids) (tokOf tok)]
def embL : List X → List AV
  | [] => []
  | x :: l => x.emb :: embL l
end
mutual
def X.size : X → Nat
  | .mk _ _ _ _ _ _ kids => 1 + sizeL kids
def sizeL : List X → Nat
  | [] => 0
  | x :: l => x.size + sizeL l
end
theorem embL_map : ∀ l : List X, embL l = l.map X.emb
  | [] => rfl
  | x :: l => by simp [embL, embL_map l]
theorem size_pos (x : X) : 1 ≤ x.size := by
  cases x; simp [X.size]
theorem sizeL_mem {x : X} : ∀ {l : List X}, x ∈ l → x.size ≤ sizeL l
  | y :: l, h => by
    rcases List.mem_cons.1 h with rfl | h
    · simp [sizeL]
    · have := sizeL_mem h; simp [sizeL]; omega
theorem sizeL_length : ∀ l : List X, l.length ≤ sizeL l
  | [] => by simp [sizeL]
  | x :: l => by have := sizeL_length l; have := size_pos x; simp [sizeL]; omega
mutual
theorem sealed_emb : ∀ x : X, x.emb.sealed = true
  | .mk _ _ _ _ _ _ kids => by simp [X.emb, AV.sealed, AV.sealedL, sealed_embL kids]
theorem sealed_embL : ∀ l : List X, AV.sealedL (embL l) = true
  | [] => rfl
  | x :: l => by simp [embL, AV.sealedL, sealed_emb x, sealed_embL l]
end

theorem wrap64 (n : Int) (h : -9223372036854775808 ≤ n ∧ n < 9223372036854775808) : IntKind.i64.wrap n = n := by
  simp [IntKind.wrap, IntKind.bits, IntKind.signed]; omega
theorem sizeL_append : ∀ a b : List X, sizeL (a ++ b) = sizeL a + sizeL b
  | [], b => by simp [sizeL]
  | x :: a, b => by simp [sizeL, sizeL_append a b]; omega
theorem fin0 {S S' : St} (h1 : S'.H.length = S.H.length) (h2 : S'.T = S.T) : finish S (.tup []) S' = some (.tup [], S') :=
  finish_same rfl rfl rfl h1 h2
theorem fin_int (k : IntKind) (n : Int) (S : St) : finish S (.int k n) S = some (.int k n, S) := finish_same rfl rfl rfl rfl rfl
theorem fin_str (s : List UInt8) (S : St) : finish S (.str s) S = some (.str s, S) := finish_same rfl rfl rfl rfl rfl
theorem fin_bool (S : St) (b : Bool) : finish S (.bool b) S = some (.bool b, S) := finish_same rfl rfl rfl rfl rfl
attribute [simp] fin_int fin_bool fin_str

def in64 (n : Int) : Prop := -9223372036854775808 ≤ n ∧ n ≤ 9223372036854775807
mutual
/-- its numbers are numbers of 64 bits; nothing of it is to be appended to -/
def X.fit : X → Prop
  | .mk k _ n lo hi tok kids => in64 k ∧ in64 n ∧ in64 lo ∧ in64 hi ∧ tok = false ∧ fitL kids
def fitL : List X → Prop
  | [] => True
  | x :: l => x.fit ∧ fitL l
end
mutual
/-- how much of it there is, at the least, to a reader -/
def X.bulk : X → Nat
  | .mk _ nm _ _ _ _ kids => 7 + nm.length + bulkL kids
def bulkL : List X → Nat
  | [] => 0
  | x :: l => x.bulk + bulkL l
end
mutual
theorem size_bulk : ∀ x : X, x.size ≤ x.bulk
  | .mk _ nm _ _ _ _ kids => by have := size_bulkL kids; simp only [X.size, X.bulk]; omega
theorem size_bulkL : ∀ l : List X, sizeL l ≤ bulkL l
  | [] => by simp [sizeL]
  | x :: l => by have := size_bulk x; have := size_bulkL l; simp only [sizeL, bulkL]; omega
end

def X.cells : X → List AV
  | .mk k nm n lo hi tok kids => [.int .i64 k, .str nm, .int .i64 n, .int .i64 lo, .int .i64 hi, .slice (embL kids) (tokOf tok)]
theorem emb_cells (x : X) : x.emb = .agg x.cells := by cases x; rfl
theorem cells_ok (x : X) : x.emb.cells? = some x.cells ∧ x.cells.length = 6 := by
  cases x; exact ⟨by simp [X.emb, X.cells, AV.cells?, AV.isCell], rfl⟩

theorem bulkL_le {H : Type} : ∀ (xs : List X) (ys : List (DataW H × List MemPlace)), ys.length = xs.length → (∀ (i : Nat) (x : X), xs[i]? = some x → ∃ y, ys[i]? = some y ∧ x.bulk ≤ Rows.uptoBulk y.1 ∧ x.fit) →
    bulkL xs ≤ Rows.uptoBulkAll (ys.map (·.1)) ∧ fitL xs
  | [], _, _, _ => by simp [bulkL, fitL]
  | x :: xs, [], h, _ => by simp at h
  | x :: xs, y :: ys, h, hq => by
    have h1 := bulkL_le xs ys (by simpa using h) fun i x' hx => by simpa using hq (i + 1) x' (by simpa using hx)
    obtain ⟨y', e, h2, h3⟩ := hq 0 x rfl
    simp at e
    subst e
    simp only [bulkL, fitL, List.map_cons, Rows.uptoBulkAll]
    exact ⟨by omega, h3, h1.2⟩

theorem wf64 {n : Int} (h : (Lit.int .i64 n).wf = true) : in64 n := by
  simp [Lit.wf, IntKind.min, IntKind.max, IntKind.signed, IntKind.bits] at h
  unfold in64
  omega

/-- AN EXPRESSION READ: it is one; its bulk is what the reader says, at the most. -/
theorem read_expr {H : Type} {enc : TypeId × Value → H} {W : World} {held : Bool} : ∀ (fuel : Nat) (cs : List Value) (x : DataW H × List MemPlace), DataW.trod enc Tryz.prog W 0 (fun _ => true) held fuel 25 cs = some x →
    ∃ e : X, VRL (gh0 W) e.cells cs ∧ e.bulk ≤ Rows.uptoBulk x.1 ∧ e.fit := by
  intro fuel
  induction fuel using Nat.strongRecOn with
  | _ fuel ih =>
  intro cs x h
  obtain ⟨xs, n, hf, rfl, hl, hxl, hfs⟩ := DataW.trod_struct Tryz.underlying25 h
  rw [c24] at hl
  match cs, hl with
  | [v0, v1, v2, v3, v4, v5], _ =>
  match xs, hxl with
  | [x0, x1, x2, x3, x4, x5], _ =>
  have g0 : DataW.trod enc Tryz.prog W 0 (fun _ => true) held n 3 [v0] = some x0 := by simpa [c3] using hfs 0 _ rfl
  have g1 : DataW.trod enc Tryz.prog W 0 (fun _ => true) held n 9 [v1] = some x1 := by simpa [c9] using hfs 1 _ rfl
  have g2 : DataW.trod enc Tryz.prog W 0 (fun _ => true) held n 2 [v2] = some x2 := by simpa [c2] using hfs 2 _ rfl
  have g3 : DataW.trod enc Tryz.prog W 0 (fun _ => true) held n 2 [v3] = some x3 := by simpa [c2] using hfs 3 _ rfl
  have g4 : DataW.trod enc Tryz.prog W 0 (fun _ => true) held n 2 [v4] = some x4 := by simpa [c2] using hfs 4 _ rfl
  have g5 : DataW.trod enc Tryz.prog W 0 (fun _ => true) held n 23 [v5] = some x5 := by simpa [c22] using hfs 5 _ rfl
  clear hfs h
  obtain ⟨k, e0, rfl, w0⟩ := DataW.trod_int u3 g0
  obtain ⟨nm, e1, rfl, w1⟩ := DataW.trod_string u9 g1
  obtain ⟨a, e2, rfl, w2⟩ := DataW.trod_int u2 g2
  obtain ⟨lo, e3, rfl, w3⟩ := DataW.trod_int u2 g3
  obtain ⟨hi, e4, rfl, w4⟩ := DataW.trod_int u2 g4
  cases e0; cases e1; cases e2; cases e3; cases e4
  obtain ⟨kids, hk, hq⟩ := slice_open (α := X) (emb := X.emb) (cl := X.cells) (Q := fun x y => x.bulk ≤ Rows.uptoBulk y.1 ∧ x.fit) (sz := 6) (by omega) u22 c24 cells_ok g5 fun n' cs y hn hy => ih n' (by omega) cs y hy
  rw [← embL_map] at hk
  cases hk with
  | cons _ _ _ _ hk _ =>
  have hb : bulkL kids + 1 ≤ Rows.uptoBulk x5.1 ∧ fitL kids := by
    rcases hq with ⟨rfl, hx⟩ | ⟨ys, rest, hx, hl, hq⟩
    · rw [hx]; simp [bulkL, Rows.uptoBulk, fitL]
    · have := bulkL_le kids ys hl hq
      rw [hx]
      simp only [Rows.uptoBulk]
      exact ⟨by omega, this.2⟩
  refine ⟨.mk k nm.data.toList a lo hi false kids, ?_, ?_, ?_⟩
  · exact .cons _ _ _ _ (.int _ _) (.cons _ _ _ _ (.str _) (.cons _ _ _ _ (.int _ _) (.cons _ _ _ _ (.int _ _) (.cons _ _ _ _ (.int _ _) (.cons _ _ _ _ hk .nil)))))
  · simp only [X.bulk, List.map_cons, List.map_nil, Rows.uptoBulk, Rows.uptoBulkAll]
    omega
  · exact ⟨wf64 w0, wf64 w2, wf64 w3, wf64 w4, rfl, hb.2⟩

/-- an argument of an expression's type -/
theorem open_expr {H : Type} {enc : TypeId × Value → H} {W : World} {base : Nat} {held : Bool} {v : Value} {d : DataW H} {ps : List MemPlace} (hval : Value.okWide Tryz.prog W .any base 25 v) (h : DataW.Trod enc Tryz.prog W 0 (fun _ => true) held 25 v d ps) :
    ∃ e : X, VR (gh0 W) e.emb v ∧ e.bulk ≤ Rows.uptoBulk d ∧ e.fit := by
  simp only [Value.okWide, Tryz.underlying25] at hval
  obtain ⟨cs, rfl, _, _⟩ := hval
  obtain ⟨fuel, h⟩ := h
  obtain ⟨e, h1, h2, h3⟩ := read_expr fuel _ _ h
  exact ⟨e, by rw [emb_cells]; exact .agg _ _ h1, h2, h3⟩
end Go.Proofs.YtmhidempoabehaaGreatDoor.EX
/-
  DERIVED: THE SHELF's CONTRACTS AT THIS DUMP, IN PLAIN WORDS (tools/lay-plain.mjs out of 'YtmhidempoabehaaGreatDoorShelf.lean', which tools/lay-shelf.mjs wrote): THE SAME DECLARATIONS UNDER THE SAME NAMES: 'import', 'namespace', 'open', 'def', 'theorem' AND NOTHING ELSE: no command of the shelf's: FOR A HAND-IN. Each laying: the table of numbers ('.._ren') and one theorem, a field a fact of the dump's own or the kernel's comparison; each contract: ONE APPLICATION.
-/
namespace Go.Proofs.YtmhidempoabehaaGreatDoor
open Go.Shelf
def SH.lays137_ren : Go.Shelf.Ren := ⟨fun | 137 => 33 | 217 => 56 | 266 => 72 | n => n, fun | 9 => 9 | 5 => 5 | 3 => 3 | n => n, fun | n => n⟩
theorem SH.lays137 : Go.Proofs.Lays.n137 Tryz.prog SH.lays137_ren := {
  mixed := by kernel_rfl
  f137 := Tryz.func33.trans (congrArg some (by kernel_rfl))
  f217 := Tryz.func56.trans (congrArg some (by kernel_rfl))
  f266 := Tryz.func72.trans (congrArg some (by kernel_rfl))
  t3 := Tryz.underlying3
  a3 := Tryz.isAgg3
  z3 := Tryz.sizeOf3
  v3 := Tryz.zeroValue3
  t5 := Tryz.underlying5
  a5 := Tryz.isAgg5
  z5 := Tryz.sizeOf5
  v5 := Tryz.zeroValue5
  t9 := Tryz.underlying9
  a9 := Tryz.isAgg9
  z9 := Tryz.sizeOf9
  v9 := Tryz.zeroValue9 }
open Go.RowKit in
/-- strings.IndexByte: "IndexByte returns the index of the first instance of c in s, or -1 if c is not present in s.": IT RETURNS 'Lib.indexByte s c'; the world is as it was. (LAID: no walk: one application.) -/
theorem SH.strings_IndexByte (s : ByteArray) (c : Int) (w : World) :
    Calls Tryz.prog 33 #[.string s, .int .u8 c] w fun e w' => e = .returned (.int .i64 (Lib.indexByte s.data.toList c.toNat.toUInt8)) ∧ w' = w := Any.strings_IndexByte SH.lays137 s c w
def SH.lays217_ren : Go.Shelf.Ren := ⟨fun | 217 => 56 | 266 => 72 | n => n, fun | 9 => 9 | 5 => 5 | 3 => 3 | n => n, fun | n => n⟩
theorem SH.lays217 : Go.Proofs.Lays.n217 Tryz.prog SH.lays217_ren := {
  mixed := by kernel_rfl
  f217 := Tryz.func56.trans (congrArg some (by kernel_rfl))
  f266 := Tryz.func72.trans (congrArg some (by kernel_rfl))
  t3 := Tryz.underlying3
  a3 := Tryz.isAgg3
  z3 := Tryz.sizeOf3
  v3 := Tryz.zeroValue3
  t5 := Tryz.underlying5
  a5 := Tryz.isAgg5
  z5 := Tryz.sizeOf5
  v5 := Tryz.zeroValue5
  t9 := Tryz.underlying9
  a9 := Tryz.isAgg9
  z9 := Tryz.sizeOf9
  v9 := Tryz.zeroValue9 }
open Go.RowKit Go.Lib in
/-- internal/stringslite.IndexByte (what strings.IndexByte calls): IT RETURNS 'Lib.indexByte s c'; the world is as it was. (LAID: no walk: one application.) -/
theorem SH.stringslite_IndexByte (s : ByteArray) (c : Int) (w : World) :
    Calls Tryz.prog 56 #[.string s, .int .u8 c] w fun e w' => e = .returned (.int .i64 (Lib.indexByte s.data.toList c.toNat.toUInt8)) ∧ w' = w := Any.stringslite_IndexByte SH.lays217 s c w
def SH.lays264_ren : Go.Shelf.Ren := ⟨fun | 264 => 80 | n => n, fun | 53 => 74 | 46 => 131 | n => n, fun | n => n⟩
theorem SH.lays264 : Go.Proofs.Lays.n264 Tryz.prog SH.lays264_ren := {
  mixed := by kernel_rfl
  f264 := Tryz.func80.trans (congrArg some (by kernel_rfl))
  t46 := Tryz.underlying131
  a46 := Tryz.isAgg131
  z46 := Tryz.sizeOf131
  v46 := Tryz.zeroValue131
  t53 := Tryz.underlying74
  a53 := Tryz.isAgg74
  z53 := Tryz.sizeOf74
  v53 := Tryz.zeroValue74 }
open Go.RowKit Go.Lib in
theorem SH.bits_Mul64 (x y : Nat) (hx : x < 18446744073709551616) (hy : y < 18446744073709551616) (w : World) :
    Calls Tryz.prog 80 #[.int .u64 x, .int .u64 y] w fun e w' => e = .returned (.tuple #[.int .u64 ((x * y / 18446744073709551616 : Nat) : Int), .int .u64 ((x * y % 18446744073709551616 : Nat) : Int)]) ∧ w' = w := Any.bits_Mul64 SH.lays264 x y hx hy w
end Go.Proofs.YtmhidempoabehaaGreatDoor
/- strings.IndexByte and bits.Mul64 by their contracts: as the evaluator takes them. No condition. -/
namespace Go.Proofs.YtmhidempoabehaaGreatDoor.AE
set_option linter.unusedVariables false
set_option linter.unusedSimpArgs false
open Go Go.RowKit

def indexX (args : List AV) (S : St) : Option (Res × St) :=
  match args with
  | [.str s, .int .u8 c] => some (.ret (.int .i64 (Lib.indexByte s c.toNat.toUInt8)), S)
  | _ => none
def mulX (args : List AV) (S : St) : Option (Res × St) :=
  match args with
  | [.int .u64 x, .int .u64 y] => if 0 ≤ x ∧ x < 18446744073709551616 ∧ 0 ≤ y ∧ y < 18446744073709551616 then
      some (.ret (.tup [.int .u64 ((x.toNat * y.toNat / 18446744073709551616 : Nat) : Int), .int .u64 ((x.toNat * y.toNat % 18446744073709551616 : Nat) : Int)]), S) else none
  | _ => none

theorem indexX_ok {args : List AV} {S S' : St} {r : Res} (h : indexX args S = some (r, S')) :
    (∃ fn, Tryz.prog.funcs[33]? = some fn ∧ (fn.name == "runtime.NumGoroutine") = false ∧ fn.body.isSome = true) ∧
    ∀ (w0 : World) (B : Nat) (G : Gh) (w : World) (vs : Array Value), Inv w0 B G S w → VRL G args vs.toList →
      Calls Tryz.prog 33 vs w fun e w' => ∃ G', Inv w0 B G' S' w' ∧ Ext G w G' w' ∧ G'.nu = G.nu ∧ ResR G' r e := by
  refine ⟨⟨_, Tryz.func33, by decide +kernel, by decide +kernel⟩, fun w0 B G w vs hi hv => ?_⟩
  unfold indexX at h
  split at h
  · rename_i s c
    cases h
    obtain ⟨a⟩ := vs
    simp only at hv
    cases hv with
    | cons _ v0 _ m h0 hm =>
      cases hm with
      | cons _ v1 _ m h1 hm =>
        cases hm
        obtain ⟨p, rfl, rfl⟩ := h0.inv_str
        cases h1
        refine (SH.strings_IndexByte p c w).mono fun e w' ⟨he, hw⟩ => ?_
        subst he; subst hw
        exact ⟨G, hi, .refl G _, rfl, VR.int _ _⟩
  · cases h

theorem mulX_ok {args : List AV} {S S' : St} {r : Res} (h : mulX args S = some (r, S')) :
    (∃ fn, Tryz.prog.funcs[80]? = some fn ∧ (fn.name == "runtime.NumGoroutine") = false ∧ fn.body.isSome = true) ∧
    ∀ (w0 : World) (B : Nat) (G : Gh) (w : World) (vs : Array Value), Inv w0 B G S w → VRL G args vs.toList →
      Calls Tryz.prog 80 vs w fun e w' => ∃ G', Inv w0 B G' S' w' ∧ Ext G w G' w' ∧ G'.nu = G.nu ∧ ResR G' r e := by
  refine ⟨⟨_, Tryz.func80, by decide +kernel, by decide +kernel⟩, fun w0 B G w vs hi hv => ?_⟩
  unfold mulX at h
  split at h
  · rename_i x y
    split at h
    · rename_i hc
      obtain ⟨c1, c2, c3, c4⟩ := hc
      cases h
      obtain ⟨a⟩ := vs
      simp only at hv
      cases hv with
      | cons _ v0 _ m h0 hm =>
        cases hm with
        | cons _ v1 _ m h1 hm =>
          cases hm
          cases h0
          cases h1
          obtain ⟨u, rfl⟩ : ∃ u : Nat, x = u := ⟨x.toNat, by omega⟩
          obtain ⟨v, rfl⟩ : ∃ v : Nat, y = v := ⟨y.toNat, by omega⟩
          refine (SH.bits_Mul64 u v (by omega) (by omega) w).mono fun e w' ⟨he, hw⟩ => ?_
          subst he; subst hw
          exact ⟨G, hi, .refl G _, rfl, VR.tup _ _ (by simpa using VRL.cons _ _ _ _ (VR.int _ _) (.cons _ _ _ _ (VR.int _ _) .nil))⟩
    · cases h
  · cases h
end Go.Proofs.YtmhidempoabehaaGreatDoor.AE
/-
  DERIVED: THE SHELF's CONTRACTS AT THIS DUMP, IN PLAIN WORDS (tools/lay-plain.mjs out of 'YtmhidempoabehaaGreatDoorShelf.lean', which tools/lay-shelf.mjs wrote): THE SAME DECLARATIONS UNDER THE SAME NAMES: 'import', 'namespace', 'open', 'def', 'theorem' AND NOTHING ELSE: no command of the shelf's: FOR A HAND-IN. Each laying: the table of numbers ('.._ren') and one theorem, a field a fact of the dump's own or the kernel's comparison; each contract: ONE APPLICATION.
-/
namespace Go.Proofs.YtmhidempoabehaaGreatDoor
open Go.Shelf
def SH.lays156_ren : Go.Shelf.Ren := ⟨fun | 156 => 31 | 165 => 53 | 166 => 54 | 169 => 55 | 240 => 70 | 241 => 71 | 276 => 78 | 277 => 79 | n => n, fun | 31 => 72 | 9 => 9 | 3 => 3 | 4 => 4 | 0 => 0 | 20 => 20 | 72 => 98 | 76 => 100 | 70 => 96 | 37 => 76 | 75 => 27 | 127 => 124 | 164 => 80 | 5 => 5 | 80 => 102 | n => n, fun | n => n⟩
theorem SH.lays156 : Go.Proofs.Lays.n156 Tryz.prog SH.lays156_ren := {
  mixed := by kernel_rfl
  f156 := Tryz.func31.trans (congrArg some (by kernel_rfl))
  f165 := Tryz.func53.trans (congrArg some (by kernel_rfl))
  f166 := Tryz.func54.trans (congrArg some (by kernel_rfl))
  f169 := Tryz.func55.trans (congrArg some (by kernel_rfl))
  f240 := Tryz.func70.trans (congrArg some (by kernel_rfl))
  f241 := Tryz.func71.trans (congrArg some (by kernel_rfl))
  f276 := Tryz.func78.trans (congrArg some (by kernel_rfl))
  f277 := Tryz.func79.trans (congrArg some (by kernel_rfl))
  t0 := Tryz.underlying0
  a0 := Tryz.isAgg0
  z0 := Tryz.sizeOf0
  v0 := Tryz.zeroValue0
  t3 := Tryz.underlying3
  a3 := Tryz.isAgg3
  z3 := Tryz.sizeOf3
  v3 := Tryz.zeroValue3
  t4 := Tryz.underlying4
  a4 := Tryz.isAgg4
  z4 := Tryz.sizeOf4
  v4 := Tryz.zeroValue4
  t9 := Tryz.underlying9
  a9 := Tryz.isAgg9
  z9 := Tryz.sizeOf9
  v9 := Tryz.zeroValue9
  t20 := Tryz.underlying20
  a20 := Tryz.isAgg20
  z20 := Tryz.sizeOf20
  v20 := Tryz.zeroValue20
  t31 := Tryz.underlying72
  a31 := Tryz.isAgg72
  z31 := Tryz.sizeOf72
  v31 := Tryz.zeroValue72
  t37 := Tryz.underlying76
  a37 := Tryz.isAgg76
  z37 := Tryz.sizeOf76
  v37 := Tryz.zeroValue76
  t70 := Tryz.underlying96
  a70 := Tryz.isAgg96
  z70 := Tryz.sizeOf96
  v70 := Tryz.zeroValue96
  t72 := Tryz.underlying98
  a72 := Tryz.isAgg98
  z72 := Tryz.sizeOf98
  v72 := Tryz.zeroValue98
  t75 := Tryz.underlying27
  a75 := Tryz.isAgg27
  z75 := Tryz.sizeOf27
  v75 := Tryz.zeroValue27
  t76 := Tryz.underlying100
  a76 := Tryz.isAgg100
  z76 := Tryz.sizeOf100
  v76 := Tryz.zeroValue100
  t127 := Tryz.underlying124
  a127 := Tryz.isAgg124
  z127 := Tryz.sizeOf124
  v127 := Tryz.zeroValue124
  t164 := Tryz.underlying80
  a164 := Tryz.isAgg80
  z164 := Tryz.sizeOf80
  v164 := Tryz.zeroValue80 }
theorem SH.Builder_Extra_156 : Builder.Extra Tryz.prog SH.lays156_ren := {
  sizeBuilder := by kernel_rfl
  liesBuilder := by kernel_rfl
  t5 := Tryz.underlying5
  a5 := Tryz.isAgg5
  z5 := Tryz.sizeOf5
  v5 := Tryz.zeroValue5
  infoByte := by kernel_rfl
  cellsByte := by kernel_rfl
  sizeByte := by kernel_rfl
  neB5 := by decide }
open Go.RowKit in
/-- No element: the empty string; the world is as it was. (Whatever the slice's address and capacity: a nil slice too.) (LAID: no walk: one application.) -/
theorem SH.strings_Join_none (a : Option Addr) (c : Nat) (sep : ByteArray) (w : World) :
    Calls Tryz.prog 31 #[.slice a 0 c, .string sep] w fun e w' => e = .returned (.string ⟨#[]⟩) ∧ w' = w := Any.strings_Join_none SH.lays156 SH.Builder_Extra_156 a c sep w
open Go.RowKit in
/-- strings.Join: "Join concatenates the elements of its first argument to create a single string. The separator string sep is placed between elements in the resulting string.": HOWEVER MANY ELEMENTS. Below the heap's end the world is as it was. (LAID: no walk: one application.) -/
theorem SH.strings_Join (bk o c : Nat) (xs : List ByteArray) (sep : ByteArray) (w : World) (hcells : ∀ (j : Nat) x, xs[j]? = some x → w.cell? ⟨bk, o + j, none⟩ = some (.string x)) (hbk : bk < w.heap.size) (hN : xs.length ≤ 140737488355328) (hcap : xs.length ≤ c) (hlen : (Lib.join (xs.map (·.data.toList)) sep.data.toList).length ≤ 140737488355328) :
    Calls Tryz.prog 31 #[.slice (some ⟨bk, o, none⟩) xs.length c, .string sep] w fun e w' => e = .returned (.string ⟨(Lib.join (xs.map (·.data.toList)) sep.data.toList).toArray⟩) ∧ Below w.heap.size w w' := Any.strings_Join SH.lays156 SH.Builder_Extra_156 bk o c xs sep w hcells hbk hN hcap hlen
end Go.Proofs.YtmhidempoabehaaGreatDoor
/- strings.Join and strings.IndexByte by their contracts: as the evaluator takes them. No condition. -/
namespace Go.Proofs.YtmhidempoabehaaGreatDoor.AE
set_option linter.unusedVariables false
set_option linter.unusedSimpArgs false
open Go Go.RowKit

def joinX (args : List AV) (S : St) : Option (Res × St) :=
  match args with
  | [.slice es _, .str sep] => match strsOf es with
    | some l => if l.length ≤ 140737488355328 ∧ (Lib.join l sep).length ≤ 140737488355328 then some (.ret (.str (Lib.join l sep)), S) else none
    | none => none
  | _ => none
theorem joinX_ok {args : List AV} {S S' : St} {r : Res} (h : joinX args S = some (r, S')) :
    (∃ fn, Tryz.prog.funcs[31]? = some fn ∧ (fn.name == "runtime.NumGoroutine") = false ∧ fn.body.isSome = true) ∧
    ∀ (w0 : World) (B : Nat) (G : Gh) (w : World) (vs : Array Value), Inv w0 B G S w → VRL G args vs.toList →
      Calls Tryz.prog 31 vs w fun e w' => ∃ G', Inv w0 B G' S' w' ∧ Ext G w G' w' ∧ G'.nu = G.nu ∧ ResR G' r e := by
  refine ⟨⟨_, Tryz.func31, by decide +kernel, by decide +kernel⟩, fun w0 B G w vs hi hv => ?_⟩
  unfold joinX at h
  split at h
  · rename_i es tok sep
    split at h
    · rename_i l hl
      split at h
      · rename_i hc
        cases h
        obtain ⟨c1, c2⟩ := hc
        have hes := strsOf_inv hl
        subst hes
        obtain ⟨a⟩ := vs
        simp only at hv
        cases hv with
        | cons _ v0 _ m h0 hm =>
          cases hm with
          | cons _ v1 _ m h1 hm =>
            cases hm
            obtain ⟨p, rfl, rfl⟩ := h1.inv_str
            have fin : ∀ (xs : List ByteArray) (w' : World), xs.map (·.data.toList) = l → Below w.heap.size w w' → ∀ q : ByteArray, q.data.toList = Lib.join l p.data.toList →
                ∃ G', Inv w0 B G' S w' ∧ Ext G w G' w' ∧ G'.nu = G.nu ∧ ResR G' (.ret (.str (Lib.join l p.data.toList))) (.returned (.string q)) := fun xs w' hx hb q hq => by
              obtain ⟨i1, i2⟩ := hi.grow hb
              exact ⟨G, i1, i2, rfl, by rw [← hq]; exact VR.str q⟩
            generalize hes : List.map AV.str l = es at *
            cases h0 with
            | nils _ ad _ =>
              have : l = [] := by cases l <;> simp_all
              subst this
              refine (SH.strings_Join_none ad 0 p w).mono fun e w' ⟨he, hw⟩ => ?_
              subst he; subst hw
              exact fin [] _ rfl (Below.refl _ _) _ rfl
            | slice _ _ fl b o cap sz k1 k2 k3 k4 k5 =>
              subst hes
              rw [flatQ_strs] at k2
              cases k2
              obtain ⟨us, v1, v2⟩ := k3.vals
              obtain ⟨xs, rfl, rfl⟩ := VRL_strs v1
              have hlen : (List.map AV.str (xs.map (·.data.toList))).length = xs.length := by simp
              rw [hlen] at k1 ⊢
              cases xs with
              | nil =>
                refine (SH.strings_Join_none (some ⟨b, o, none⟩) cap p w).mono fun e w' ⟨he, hw⟩ => ?_
                subst he; subst hw
                exact fin [] _ rfl (Below.refl _ _) _ rfl
              | cons x xs =>
                have hcells : ∀ (j : Nat) y, (x :: xs)[j]? = some y → w.cell? ⟨b, o + j, none⟩ = some (.string y) := fun j y hj =>
                  hi.imm _ _ _ (v2 j (.string y) (by rw [List.getElem?_map, hj]; rfl))
                refine (SH.strings_Join b o cap (x :: xs) p w hcells (World.block_lt_of_cell? w _ (hcells 0 x rfl)) (by simpa using c1) k1 c2).mono fun e w' ⟨he, hw⟩ => ?_
                subst he
                exact fin (x :: xs) _ rfl hw _ (by simp)
      · cases h
    · cases h
  · cases h

end Go.Proofs.YtmhidempoabehaaGreatDoor.AE
/- The environment: which functions are followed; their types' facts. No condition. -/
namespace Go.Proofs.YtmhidempoabehaaGreatDoor.PT
set_option linter.unusedVariables false
set_option linter.unusedSimpArgs false
open Go AE EX
set_option maxRecDepth 100000

/-- errors.As at the two targets that fault.Code and fault.Place hand it, by contract -/
def asX (args : List AV) (S : St) : Option (Res × St) :=
  match args with
  | [.nilif, _] => some (.ret (.bool false), S)
  | [.iface 64 (.ptr id 0), .iface 68 (.ptr d 0)] => match S.H[id]?, S.H[d]? with
    | some ⟨66, [.int .i64 c, _, _]⟩, some ⟨41, [_]⟩ => some (.ret (.bool true), { S with H := S.H.set d ⟨41, [.int .i64 c]⟩ })
    | _, _ => none
  | [.iface 64 (.ptr id 0), .iface 69 (.ptr d 0)] => match S.H[d]? with
    | some ⟨64, [_]⟩ => some (.ret (.bool true), { S with H := S.H.set d ⟨64, [.ptr id 0]⟩ })
    | _ => none
  | _ => none

/-- the functions that are followed -/
def okL : List Nat := [3, 4, 5, 6, 7, 8, 9, 10, 11, 12, 13, 14, 15, 16, 17, 18, 19, 20, 21, 22, 23, 24, 25, 26, 28, 29, 30, 32, 34, 35, 36, 37, 38, 39, 40, 41, 42, 47, 48, 49, 50, 51, 52, 57, 58, 59, 60, 61, 62, 63, 67, 68, 69, 73, 74, 75, 76, 77, 81, 82, 83, 84, 85, 86, 87, 88, 89, 90, 91, 92, 93, 94, 95]
@[simp] def isEsc (f : Nat) : Bool := f == 10 || f == 11 || f == 12 || f == 13 || f == 14 || f == 15 || f == 82
noncomputable def E : Env where
  ok := fun f => okL.contains f
  esc := fun f d => (f == 10 && d == 12) || (f == 11 && (d == 2 || d == 3 || d == 4 || d == 8)) || (f == 12 && d == 13) || (f == 13 && d == 3) || (f == 14 && d == 3) || (f == 15 && d == 8) || (f == 82 && d == 1)
  ps := fun f id => if f = 6 ∧ id = 9 then [(1, 5), (2, 5)] else if f = 6 ∧ id = 11 then [(1, 4), (2, 4), (1, 6), (2, 6), (4, 6), (1, 11), (2, 11), (4, 11), (6, 11), (7, 11)] else if f = 6 ∧ id = 13 then [(1, 8), (3, 8), (4, 8), (1, 13), (3, 13), (4, 13), (8, 13), (9, 13), (1, 15), (3, 15), (4, 15), (8, 15), (9, 15)] else if f = 11 ∧ id = 4 then [(0, 4), (4, 5)] else if f = 20 ∧ id = 15 then [(1, 5), (1, 6)] else if f = 23 ∧ id = 1 then [(3, 7)] else if f = 24 ∧ id = 2 then [(4, 5)] else if f = 26 ∧ id = 3 then [(0, 2), (2, 2)] else if f = 30 ∧ id = 3 then [(1, 4), (2, 4)] else if f = 35 ∧ id = 4 then [(4, 8)] else if f = 37 ∧ id = 2 then [(3, 7)] else if f = 37 ∧ id = 5 then [(4, 8)] else if f = 38 ∧ id = 1 then [(3, 7)] else if f = 38 ∧ id = 2 then [(6, 10), (6, 15), (10, 15)] else if f = 38 ∧ id = 4 then [(3, 7), (3, 12), (7, 12)] else if f = 39 ∧ id = 4 then [(3, 7)] else if f = 39 ∧ id = 8 then [(3, 7)] else if f = 39 ∧ id = 10 then [(4, 8), (4, 12), (8, 12), (4, 19), (8, 19), (12, 19)] else if f = 40 ∧ id = 3 then [(0, 2), (2, 2)] else if f = 41 ∧ id = 2 then [(1, 3)] else if f = 48 ∧ id = 1 then [(1, 4), (1, 7), (4, 7), (1, 10), (4, 10), (7, 10)] else if f = 49 ∧ id = 4 then [(13, 19)] else if f = 61 ∧ id = 3 then [(0, 2), (2, 2)] else if f = 61 ∧ id = 5 then [(0, 2), (2, 2)] else if f = 61 ∧ id = 7 then [(0, 2), (2, 2)] else if f = 61 ∧ id = 9 then [(0, 2), (2, 2)] else if f = 61 ∧ id = 11 then [(0, 2), (2, 2)] else if f = 62 ∧ id = 1 then [(3, 7)] else if f = 62 ∧ id = 2 then [(3, 7)] else if f = 62 ∧ id = 4 then [(3, 7)] else if f = 76 ∧ id = 4 then [(0, 2), (2, 2)] else if f = 76 ∧ id = 6 then [(0, 2), (2, 2)] else if f = 81 ∧ id = 3 then [(0, 2), (2, 2)] else if f = 86 ∧ id = 15 then [(4, 8), (14, 14)] else if f = 87 ∧ id = 6 then [(7, 9), (7, 14)] else if f = 93 ∧ id = 16 then [(0, 2), (2, 2)] else []
  ext := fun f args S => if f = 33 then indexX args S else if f = 80 then mulX args S else if f = 27 then asX args S else if f = 31 then joinX args S else none
  dfr := fun f => f == 11 || f == 82

theorem E_esc (f d : Nat) (h : isEsc f = false) : E.esc f d = false := by
  simp [isEsc] at h
  simp [E, h]
@[simp] theorem ps6_9 : E.ps 6 9 = [(1, 5), (2, 5)] := rfl
@[simp] theorem ps6_11 : E.ps 6 11 = [(1, 4), (2, 4), (1, 6), (2, 6), (4, 6), (1, 11), (2, 11), (4, 11), (6, 11), (7, 11)] := rfl
@[simp] theorem ps6_13 : E.ps 6 13 = [(1, 8), (3, 8), (4, 8), (1, 13), (3, 13), (4, 13), (8, 13), (9, 13), (1, 15), (3, 15), (4, 15), (8, 15), (9, 15)] := rfl
@[simp] theorem ps11_4 : E.ps 11 4 = [(0, 4), (4, 5)] := rfl
@[simp] theorem ps20_15 : E.ps 20 15 = [(1, 5), (1, 6)] := rfl
@[simp] theorem ps23_1 : E.ps 23 1 = [(3, 7)] := rfl
@[simp] theorem ps24_2 : E.ps 24 2 = [(4, 5)] := rfl
@[simp] theorem ps26_3 : E.ps 26 3 = [(0, 2), (2, 2)] := rfl
@[simp] theorem ps30_3 : E.ps 30 3 = [(1, 4), (2, 4)] := rfl
@[simp] theorem ps35_4 : E.ps 35 4 = [(4, 8)] := rfl
@[simp] theorem ps37_2 : E.ps 37 2 = [(3, 7)] := rfl
@[simp] theorem ps37_5 : E.ps 37 5 = [(4, 8)] := rfl
@[simp] theorem ps38_1 : E.ps 38 1 = [(3, 7)] := rfl
@[simp] theorem ps38_2 : E.ps 38 2 = [(6, 10), (6, 15), (10, 15)] := rfl
@[simp] theorem ps38_4 : E.ps 38 4 = [(3, 7), (3, 12), (7, 12)] := rfl
@[simp] theorem ps39_4 : E.ps 39 4 = [(3, 7)] := rfl
@[simp] theorem ps39_8 : E.ps 39 8 = [(3, 7)] := rfl
@[simp] theorem ps39_10 : E.ps 39 10 = [(4, 8), (4, 12), (8, 12), (4, 19), (8, 19), (12, 19)] := rfl
@[simp] theorem ps40_3 : E.ps 40 3 = [(0, 2), (2, 2)] := rfl
@[simp] theorem ps41_2 : E.ps 41 2 = [(1, 3)] := rfl
@[simp] theorem ps48_1 : E.ps 48 1 = [(1, 4), (1, 7), (4, 7), (1, 10), (4, 10), (7, 10)] := rfl
@[simp] theorem ps49_4 : E.ps 49 4 = [(13, 19)] := rfl
@[simp] theorem ps61_3 : E.ps 61 3 = [(0, 2), (2, 2)] := rfl
@[simp] theorem ps61_5 : E.ps 61 5 = [(0, 2), (2, 2)] := rfl
@[simp] theorem ps61_7 : E.ps 61 7 = [(0, 2), (2, 2)] := rfl
@[simp] theorem ps61_9 : E.ps 61 9 = [(0, 2), (2, 2)] := rfl
@[simp] theorem ps61_11 : E.ps 61 11 = [(0, 2), (2, 2)] := rfl
@[simp] theorem ps62_1 : E.ps 62 1 = [(3, 7)] := rfl
@[simp] theorem ps62_2 : E.ps 62 2 = [(3, 7)] := rfl
@[simp] theorem ps62_4 : E.ps 62 4 = [(3, 7)] := rfl
@[simp] theorem ps76_4 : E.ps 76 4 = [(0, 2), (2, 2)] := rfl
@[simp] theorem ps76_6 : E.ps 76 6 = [(0, 2), (2, 2)] := rfl
@[simp] theorem ps81_3 : E.ps 81 3 = [(0, 2), (2, 2)] := rfl
@[simp] theorem ps86_15 : E.ps 86 15 = [(4, 8), (14, 14)] := rfl
@[simp] theorem ps87_6 : E.ps 87 6 = [(7, 9), (7, 14)] := rfl
@[simp] theorem ps93_16 : E.ps 93 16 = [(0, 2), (2, 2)] := rfl

theorem tc46 : Tryz.prog.cellsOf 45 = 4 := by kernel_rfl
theorem ta46 : aggQ Tryz.prog 45 = true := by kernel_rfl
theorem tk46 : knownQ Tryz.prog 45 = true := by kernel_rfl
theorem ti46 : (Tryz.prog.info? 45).isSome = true := by kernel_rfl
theorem tz46 : zeroQ Tryz.prog 45 = some [.int .i64 0, .str [], .int .i64 0, .int .i64 0] := by kernel_rfl
theorem tp46 : partsQ Tryz.prog 45 = true := by kernel_rfl
theorem tq46_0 : fieldQ Tryz.prog 45 0 = some (0, 1, false) := by kernel_rfl
theorem tl46_0 : placeQ Tryz.prog 45 0 = some (0, 1) := by kernel_rfl
theorem tq46_1 : fieldQ Tryz.prog 45 1 = some (1, 1, false) := by kernel_rfl
theorem tl46_1 : placeQ Tryz.prog 45 1 = some (1, 1) := by kernel_rfl
theorem tq46_2 : fieldQ Tryz.prog 45 2 = some (2, 1, false) := by kernel_rfl
theorem tl46_2 : placeQ Tryz.prog 45 2 = some (2, 1) := by kernel_rfl
theorem tq46_3 : fieldQ Tryz.prog 45 3 = some (3, 1, false) := by kernel_rfl
theorem tl46_3 : placeQ Tryz.prog 45 3 = some (3, 1) := by kernel_rfl
theorem tc61 : Tryz.prog.cellsOf 54 = 3 := by kernel_rfl
theorem ta61 : aggQ Tryz.prog 54 = true := by kernel_rfl
theorem tk61 : knownQ Tryz.prog 54 = true := by kernel_rfl
theorem ti61 : (Tryz.prog.info? 54).isSome = true := by kernel_rfl
theorem tz61 : zeroQ Tryz.prog 54 = some [.str [], .int .i64 0, .slice [] .clip] := by kernel_rfl
theorem tp61 : partsQ Tryz.prog 54 = true := by kernel_rfl
theorem tq61_0 : fieldQ Tryz.prog 54 0 = some (0, 1, false) := by kernel_rfl
theorem tl61_0 : placeQ Tryz.prog 54 0 = some (0, 1) := by kernel_rfl
theorem tq61_1 : fieldQ Tryz.prog 54 1 = some (1, 1, false) := by kernel_rfl
theorem tl61_1 : placeQ Tryz.prog 54 1 = some (1, 1) := by kernel_rfl
theorem tq61_2 : fieldQ Tryz.prog 54 2 = some (2, 1, false) := by kernel_rfl
theorem tl61_2 : placeQ Tryz.prog 54 2 = some (2, 1) := by kernel_rfl
theorem tc66 : Tryz.prog.cellsOf 59 = 3 := by kernel_rfl
theorem ta66 : aggQ Tryz.prog 59 = true := by kernel_rfl
theorem tk66 : knownQ Tryz.prog 59 = true := by kernel_rfl
theorem ti66 : (Tryz.prog.info? 59).isSome = true := by kernel_rfl
theorem tz66 : zeroQ Tryz.prog 59 = some [.slice [] .clip, .int .i64 0, .int .i64 0] := by kernel_rfl
theorem tp66 : partsQ Tryz.prog 59 = true := by kernel_rfl
theorem tq66_0 : fieldQ Tryz.prog 59 0 = some (0, 1, false) := by kernel_rfl
theorem tl66_0 : placeQ Tryz.prog 59 0 = some (0, 1) := by kernel_rfl
theorem tq66_1 : fieldQ Tryz.prog 59 1 = some (1, 1, false) := by kernel_rfl
theorem tl66_1 : placeQ Tryz.prog 59 1 = some (1, 1) := by kernel_rfl
theorem tq66_2 : fieldQ Tryz.prog 59 2 = some (2, 1, false) := by kernel_rfl
theorem tl66_2 : placeQ Tryz.prog 59 2 = some (2, 1) := by kernel_rfl
theorem tc68 : Tryz.prog.cellsOf 61 = 2 := by kernel_rfl
theorem ta68 : aggQ Tryz.prog 61 = true := by kernel_rfl
theorem tk68 : knownQ Tryz.prog 61 = true := by kernel_rfl
theorem ti68 : (Tryz.prog.info? 61).isSome = true := by kernel_rfl
theorem tz68 : zeroQ Tryz.prog 61 = some [.int .i64 0, .int .i64 0] := by kernel_rfl
theorem tp68 : partsQ Tryz.prog 61 = true := by kernel_rfl
theorem tq68_0 : fieldQ Tryz.prog 61 0 = some (0, 1, false) := by kernel_rfl
theorem tl68_0 : placeQ Tryz.prog 61 0 = some (0, 1) := by kernel_rfl
theorem tq68_1 : fieldQ Tryz.prog 61 1 = some (1, 1, false) := by kernel_rfl
theorem tl68_1 : placeQ Tryz.prog 61 1 = some (1, 1) := by kernel_rfl
theorem tc58 : Tryz.prog.cellsOf 66 = 3 := by kernel_rfl
theorem ta58 : aggQ Tryz.prog 66 = true := by kernel_rfl
theorem tk58 : knownQ Tryz.prog 66 = true := by kernel_rfl
theorem ti58 : (Tryz.prog.info? 66).isSome = true := by kernel_rfl
theorem tz58 : zeroQ Tryz.prog 66 = some [.int .i64 0, .int .i64 0, .nilif] := by kernel_rfl
theorem tp58 : partsQ Tryz.prog 66 = true := by kernel_rfl
theorem tq58_0 : fieldQ Tryz.prog 66 0 = some (0, 1, false) := by kernel_rfl
theorem tl58_0 : placeQ Tryz.prog 66 0 = some (0, 1) := by kernel_rfl
theorem tq58_1 : fieldQ Tryz.prog 66 1 = some (1, 1, false) := by kernel_rfl
theorem tl58_1 : placeQ Tryz.prog 66 1 = some (1, 1) := by kernel_rfl
theorem tq58_2 : fieldQ Tryz.prog 66 2 = some (2, 1, false) := by kernel_rfl
theorem tl58_2 : placeQ Tryz.prog 66 2 = some (2, 1) := by kernel_rfl
theorem tc39 : Tryz.prog.cellsOf 35 = 1 := by kernel_rfl
theorem ta39 : aggQ Tryz.prog 35 = false := by kernel_rfl
theorem tk39 : knownQ Tryz.prog 35 = true := by kernel_rfl
theorem ti39 : (Tryz.prog.info? 35).isSome = true := by kernel_rfl
theorem tc27 : Tryz.prog.cellsOf 27 = 1 := by kernel_rfl
theorem ta27 : aggQ Tryz.prog 27 = false := by kernel_rfl
theorem tk27 : knownQ Tryz.prog 27 = true := by kernel_rfl
theorem ti27 : (Tryz.prog.info? 27).isSome = true := by kernel_rfl
theorem tc30 : Tryz.prog.cellsOf 41 = 1 := by kernel_rfl
theorem ta30 : aggQ Tryz.prog 41 = false := by kernel_rfl
theorem tk30 : knownQ Tryz.prog 41 = true := by kernel_rfl
theorem ti30 : (Tryz.prog.info? 41).isSome = true := by kernel_rfl
theorem tc64 : Tryz.prog.cellsOf 57 = 1 := by kernel_rfl
theorem ta64 : aggQ Tryz.prog 57 = false := by kernel_rfl
theorem tk64 : knownQ Tryz.prog 57 = true := by kernel_rfl
theorem ti64 : (Tryz.prog.info? 57).isSome = true := by kernel_rfl
theorem tc20 : Tryz.prog.cellsOf 20 = 1 := by kernel_rfl
theorem ta20 : aggQ Tryz.prog 20 = false := by kernel_rfl
theorem tk20 : knownQ Tryz.prog 20 = true := by kernel_rfl
theorem ti20 : (Tryz.prog.info? 20).isSome = true := by kernel_rfl
theorem tc55 : Tryz.prog.cellsOf 64 = 1 := by kernel_rfl
theorem ta55 : aggQ Tryz.prog 64 = false := by kernel_rfl
theorem tk55 : knownQ Tryz.prog 64 = true := by kernel_rfl
theorem ti55 : (Tryz.prog.info? 64).isSome = true := by kernel_rfl
theorem tr55 : ptrQ Tryz.prog 64 = true := by kernel_rfl
theorem tn51 : concQ Tryz.prog 68 = true := by kernel_rfl
theorem tn56 : concQ Tryz.prog 69 = true := by kernel_rfl
theorem ts39 : sliceQ Tryz.prog 35 = some 45 := by kernel_rfl
theorem tb30 : boolQ Tryz.prog 41 = false := by kernel_rfl
theorem tf27 : ifcQ Tryz.prog 27 = true := by kernel_rfl
theorem tn55 : concQ Tryz.prog 64 = true := by kernel_rfl
theorem tn68 : concQ Tryz.prog 61 = true := by kernel_rfl
theorem tu39 : Tryz.prog.underlying 35 = some (.slice 45) := by kernel_rfl
theorem ty46 : Tryz.prog.bytesOf 45 = 40 := by kernel_rfl
theorem c5 : Tryz.prog.cellsOf 5 = 1 := by kernel_rfl
theorem a5 : aggQ Tryz.prog 5 = false := by kernel_rfl
theorem bq9 : boolQ Tryz.prog 9 = false := by kernel_rfl
theorem sq9 : strQ Tryz.prog 9 = true := by kernel_rfl
theorem k9 : knownQ Tryz.prog 9 = true := by kernel_rfl
theorem a9 : aggQ Tryz.prog 9 = false := by kernel_rfl
theorem iq5 : intQ Tryz.prog 5 = some .u8 := by kernel_rfl
theorem iq2 : intQ Tryz.prog 2 = some .i64 := by kernel_rfl
theorem fq1 : fieldQ Tryz.prog 25 1 = some (1, 1, false) := by kernel_rfl
theorem fq2 : fieldQ Tryz.prog 25 2 = some (2, 1, false) := by kernel_rfl
theorem fq3 : fieldQ Tryz.prog 25 3 = some (3, 1, false) := by kernel_rfl
theorem cells_all (x : X) : x.cells.all AV.isCell = true := by
  cases x; rfl
end Go.Proofs.YtmhidempoabehaaGreatDoor.PT
/- Names and texts that may be, evaluated. No condition. -/
namespace Go.Proofs.YtmhidempoabehaaGreatDoor.PT
set_option linter.unusedVariables false
set_option linter.unusedSimpArgs false
open Go AE EX
set_option maxRecDepth 100000

theorem bq5 : boolQ Tryz.prog 5 = false := by kernel_rfl

def headB (c : Int) : Bool := (decide (97 ≤ c) && decide (c ≤ 122)) || (decide (65 ≤ c) && decide (c ≤ 90)) || c == 95
def tailB (c : Int) : Bool := headB c || (decide (48 ≤ c) && decide (c ≤ 57))
/-! ### a text -/
def badB (c : UInt8) : Bool := ((c.toNat : Int) == 34) || ((c.toNat : Int) == 10)
def plainB (s : List UInt8) : Bool := decide (s.length ≤ 32) && s.all fun c => !badB c

def PI (s : List UInt8) (S0 : St) (m : Nat) (fs : FS) : Prop :=
  ∃ i, i + m = s.length ∧ fs.t 0 = .str s ∧ fs.t 3 = .int .i64 i ∧ fs.S = S0 ∧ (s.take i).all (fun c => !badB c) = true
def PQ (s : List UInt8) (S0 : St) (r : Out × FS) : Prop :=
  r.2.S = S0 ∧ ((r.1 = .exit 0 ∧ s.all (fun c => !badB c) = true) ∨ (r.1 = .ret ∧ r.2.t 2 = .bool false ∧ s.all (fun c => !badB c) = false))

end Go.Proofs.YtmhidempoabehaaGreatDoor.PT
/- Names, kinds, evaluated. No condition. -/
namespace Go.Proofs.YtmhidempoabehaaGreatDoor.PT
set_option linter.unusedVariables false
set_option linter.unusedSimpArgs false
open Go AE EX
set_option maxRecDepth 100000

def tl (c : UInt8) : Bool := tailB (c.toNat : Int)
def nameB : List UInt8 → Bool
  | [] => false
  | c :: r => decide (r.length + 1 ≤ 16) && headB (c.toNat : Int) && r.all tl

def NI (c : UInt8) (r : List UInt8) (S0 : St) (m : Nat) (fs : FS) : Prop :=
  ∃ i, i + m = r.length ∧ fs.t 0 = .str (c :: r) ∧ fs.t 3 = .int .i64 (i + 1 : Nat) ∧ fs.S = S0 ∧ (r.take i).all tl = true
def NQ (c : UInt8) (r : List UInt8) (S0 : St) (x : Out × FS) : Prop :=
  x.2.S = S0 ∧ ((x.1 = .exit 0 ∧ r.all tl = true) ∨ (x.1 = .ret ∧ x.2.t 2 = .bool false ∧ r.all tl = false))

end Go.Proofs.YtmhidempoabehaaGreatDoor.PT
/- What an expression's own parts have to be, evaluated. No condition. -/
namespace Go.Proofs.YtmhidempoabehaaGreatDoor.PT
set_option linter.unusedVariables false
set_option linter.unusedSimpArgs false
open Go AE EX
set_option maxRecDepth 100000

def kidsI (k : Int) : Int := if k < 1 ∨ 25 < k then -2 else if k = 4 then -1 else if k ≤ 7 ∨ k = 13 ∨ k = 21 then 0 else if k = 11 ∨ k = 12 ∨ k = 18 ∨ k = 25 ∨ k = 22 ∨ k = 23 then 1 else 2
def kinds (k : Int) : Prop := k = 1 ∨ k = 2 ∨ k = 3 ∨ k = 4 ∨ k = 5 ∨ k = 6 ∨ k = 7 ∨ k = 8 ∨ k = 9 ∨ k = 10 ∨ k = 11 ∨ k = 12 ∨ k = 13 ∨ k = 14 ∨ k = 15 ∨ k = 16 ∨ k = 17 ∨ k = 18 ∨ k = 19 ∨ k = 20 ∨ k = 21 ∨ k = 22 ∨ k = 23 ∨ k = 24 ∨ k = 25
theorem kinds_iff (k : Int) : kinds k ↔ 1 ≤ k ∧ k ≤ 25 := by unfold kinds; omega

structure Fits (k : Int) (nm : List UInt8) (n lo hi : Int) : Prop where
  text : k = 3 → plainB nm = true
  name : k = 5 ∨ k = 6 ∨ k = 13 ∨ k = 21 → nameB nm = true
  none : ¬ (k = 3 ∨ k = 5 ∨ k = 6 ∨ k = 13 ∨ k = 21) → nm = []
  int : k = 1 → 0 ≤ n
  bool : k = 2 → n = 0 ∨ n = 1
  num : k ≠ 1 → k ≠ 2 → n = 0
  span : k = 22 ∨ k = 23 ∨ k = 24 → 0 ≤ lo ∧ (hi = -1 ∨ lo ≤ hi)
  times : k = 13 → lo = 0 ∧ 0 ≤ hi
  zero : ¬ (k = 22 ∨ k = 23 ∨ k = 24 ∨ k = 13) → lo = 0 ∧ hi = 0

end Go.Proofs.YtmhidempoabehaaGreatDoor.PT
/- What an expression's own parts have to be, evaluated (2). No condition. -/
namespace Go.Proofs.YtmhidempoabehaaGreatDoor.PT
set_option linter.unusedVariables false
set_option linter.unusedSimpArgs false
open Go AE EX
set_option maxRecDepth 100000

end Go.Proofs.YtmhidempoabehaaGreatDoor.PT
/- Sets that may be, evaluated. No condition. -/
namespace Go.Proofs.YtmhidempoabehaaGreatDoor.PT
set_option linter.unusedVariables false
set_option linter.unusedSimpArgs false
open Go AE EX
set_option maxRecDepth 100000

def _root_.Go.Proofs.YtmhidempoabehaaGreatDoor.EX.X.nm : X → List UInt8
  | .mk _ nm _ _ _ _ _ => nm
/-- the kid of a set at i: a text, behind the one ahead of it -/
def kidOK (l : List X) (i : Nat) : Prop := ∃ nm tk, l[i]? = some (.mk 3 nm 0 0 0 tk []) ∧ plainB nm = true ∧ (0 < i → ∀ y, l[i - 1]? = some y → (Op.bytesLess nm y.nm || nm == y.nm) = false)
def SetKid (x : X) : Prop := ∃ nm tk, x = .mk 3 nm 0 0 0 tk [] ∧ plainB nm = true
def SetOK (l : List X) : Prop := l.length ≤ 8 ∧ ∀ i, i < l.length → kidOK l i

theorem SetOK.kid {l : List X} (h : SetOK l) : ∀ x ∈ l, SetKid x := fun x hx => by
  obtain ⟨i, hi, e⟩ := List.getElem_of_mem hx
  obtain ⟨nm, tk, he, hp, _⟩ := h.2 i hi
  rw [List.getElem?_eq_getElem hi, e] at he
  cases he
  exact ⟨nm, tk, rfl, hp⟩

def SI (n : Nat) (C : List AV) (kids : List X) (S0 : St) (m : Nat) (fs : FS) : Prop :=
  ∃ i, i + m = kids.length ∧ fs.t 1 = .loc n 1 1 0 ∧ fs.b 1 = (1, C) ∧ fs.t 3 = .int .i64 i ∧ fs.S = S0 ∧ ∀ j, j < i → kidOK kids j
def SQ (kids : List X) (S0 : St) (r : Out × FS) : Prop :=
  r.2.S = S0 ∧ ((r.1 = .exit 0 ∧ ∀ j, j < kids.length → kidOK kids j) ∨ (r.1 = .ret ∧ r.2.t 2 = .bool false ∧ ∃ j, j < kids.length ∧ ¬ kidOK kids j))

end Go.Proofs.YtmhidempoabehaaGreatDoor.PT
/- Sets that may be; how deep, evaluated. No condition. -/
namespace Go.Proofs.YtmhidempoabehaaGreatDoor.PT
set_option linter.unusedVariables false
set_option linter.unusedSimpArgs false
open Go AE EX
set_option maxRecDepth 100000

/-! ### how deep -/
mutual
def _root_.Go.Proofs.YtmhidempoabehaaGreatDoor.EX.X.dep : X → Nat
  | .mk k _ _ _ _ _ kids => if k == 4 then 1 else depL kids + 1
def depL : List X → Nat
  | [] => 0
  | x :: l => if depL l < x.dep then x.dep else depL l
end
/-- the deepest of the first ones, as the loop finds it -/
def depF (l : List X) : Nat := l.foldl (fun m x => if m < x.dep then x.dep else m) 0
theorem depF_snoc (l : List X) (x : X) : depF (l ++ [x]) = if depF l < x.dep then x.dep else depF l := by unfold depF; rw [List.foldl_append]; rfl
mutual
theorem dep_size : ∀ x : X, x.dep ≤ x.size
  | .mk k _ _ _ _ _ kids => by
    have := depL_size kids
    simp only [X.dep, X.size]
    split <;> omega
theorem depL_size : ∀ l : List X, depL l ≤ sizeL l
  | [] => by simp [depL]
  | x :: l => by have := dep_size x; have := depL_size l; simp only [depL, sizeL]; split <;> omega
end
theorem foldl_max (l : List X) : ∀ m, l.foldl (fun m x => if m < x.dep then x.dep else m) m = max m (depL l) := by
  induction l with
  | nil => intro m; simp [depL]
  | cons x l ih =>
    intro m
    simp only [List.foldl_cons, ih, depL]
    split <;> split <;> omega
theorem depF_eq (l : List X) : depF l = depL l := by unfold depF; rw [foldl_max]; omega

def DPI (n : Nat) (C : List AV) (kids : List X) (S0 : St) (i : Nat) (fs : FS) : Prop :=
  fs.t 1 = .loc n 1 1 0 ∧ fs.b 1 = (1, C) ∧ fs.t 4 = .int .i64 i ∧ fs.t 3 = .int .i64 (depF (kids.take i)) ∧ fs.S = S0

end Go.Proofs.YtmhidempoabehaaGreatDoor.PT
/- All that is in an expression, evaluated. No condition. -/
namespace Go.Proofs.YtmhidempoabehaaGreatDoor.PT
set_option linter.unusedVariables false
set_option linter.unusedSimpArgs false
open Go AE EX
set_option maxRecDepth 100000

mutual
def _root_.Go.Proofs.YtmhidempoabehaaGreatDoor.EX.X.nodes : X → List X
  | .mk k nm n lo hi tk kids => .mk k nm n lo hi tk kids :: if k == 4 then [] else nodesL kids
def nodesL : List X → List X
  | [] => []
  | x :: l => x.nodes ++ nodesL l
end
mutual
theorem nodes_size : ∀ x : X, x.nodes.length ≤ x.size
  | .mk k _ _ _ _ _ kids => by
    have := nodesL_size kids
    simp only [X.nodes, X.size, List.length_cons]
    split <;> simp <;> omega
theorem nodesL_size : ∀ l : List X, (nodesL l).length ≤ sizeL l
  | [] => by simp [nodesL]
  | x :: l => by have := nodes_size x; have := nodesL_size l; simp only [nodesL, sizeL, List.length_append]; omega
end
theorem nodesL_append (a b : List X) : nodesL (a ++ b) = nodesL a ++ nodesL b := by
  induction a with
  | nil => rfl
  | cons x a ih => simp [nodesL, ih]
theorem nodes_ne (x : X) : x.nodes ≠ [] := by cases x; simp [X.nodes]
theorem embL_append (a b : List X) : embL (a ++ b) = embL a ++ embL b := by simp [embL_map]
theorem embL_length (a : List X) : (embL a).length = a.length := by simp [embL_map]
theorem embL_nil {a : List X} : embL a = [] ↔ a = [] := by cases a <;> simp [embL]
theorem sizes_emb : ∀ l : List X, sizesOk 6 (embL l) = true
  | [] => rfl
  | x :: l => by
    obtain ⟨h1, h2⟩ := cells_ok x
    simp [embL, sizesOk, h1, h2, sizes_emb l]
mutual
theorem strip_emb (t0 : Nat) : ∀ x : X, x.emb.strip t0 = x.emb
  | .mk _ _ _ _ _ tk kids => by cases tk <;> simp [X.emb, AV.strip, AV.stripL, tokOf, strip_embL t0 kids]
theorem strip_embL (t0 : Nat) : ∀ l : List X, AV.stripL t0 (embL l) = embL l
  | [] => rfl
  | x :: l => by simp [embL, AV.stripL, strip_emb t0 x, strip_embL t0 l]
end
mutual
theorem low_emb (h0 t0 : Nat) : ∀ x : X, x.emb.low h0 t0 = true
  | .mk _ _ _ _ _ tk kids => by cases tk <;> simp [X.emb, AV.low, AV.lowL, tokOf, low_embL h0 t0 kids]
theorem low_embL (h0 t0 : Nat) : ∀ l : List X, AV.lowL h0 t0 (embL l) = true
  | [] => rfl
  | x :: l => by simp [embL, AV.lowL, low_emb h0 t0 x, low_embL h0 t0 l]
end
theorem fin_clip (l : List X) (S : St) : finish S (.slice (embL l) .clip) S = some (.slice (embL l) .clip, S) :=
  finish_same (by simp [AV.sealed, sealed_embL]) (by simp [AV.strip, strip_embL]) (by simp [AV.low, low_embL]) rfl rfl
theorem fin_own (l : List X) (S : St) (p : Nat) (ex : List Nat) : finish S (.slice (embL l) (.own S.T.length p)) ⟨S.H, S.T ++ ex⟩ = some (.slice (embL l) .non, S) := by
  unfold finish
  simp [AV.sealed, AV.strip, AV.low, boxEqL_refl, sealed_embL, strip_embL, low_embL]

theorem by24 : Tryz.prog.bytesOf 25 = 72 := by kernel_rfl
theorem appC (l r : List X) (tok : Tok) (S : St) (hr : r ≠ []) (h1 : l.length ≤ 1048576) (h2 : r.length ≤ 1048576) :
    evAppend Tryz.prog [23, 23] (.slice (embL l) .clip) (.slice (embL r) tok) S = some (.slice (embL (l ++ r)) (.own S.T.length ((l.length + r.length) * 6)), ⟨S.H, S.T ++ [(l.length + r.length) * 6]⟩) := by
  simp [evAppend, sq22, u22, elemsOf, z24, c24, by24, sizes_emb, embL_length, embL_append, embL_nil, hr]
  omega
theorem appO (l r : List X) (tok : Tok) (S : St) (p : Nat) (hr : r ≠ []) (h1 : l.length ≤ 1048576) (h2 : r.length ≤ 1048576) :
    evAppend Tryz.prog [23, 23] (.slice (embL l) (.own S.T.length p)) (.slice (embL r) tok) ⟨S.H, S.T ++ [p]⟩ = some (.slice (embL (l ++ r)) (.own S.T.length (p + r.length * 6)), ⟨S.H, S.T ++ [p + r.length * 6]⟩) := by
  simp [evAppend, sq22, u22, elemsOf, z24, c24, by24, sizes_emb, embL_length, embL_append, embL_nil, hr]
  omega

def GI (n : Nat) (C : List AV) (e : X) (kids : List X) (S0 : St) (i : Nat) (fs : FS) : Prop :=
  fs.t 1 = .loc n 1 1 0 ∧ fs.b 1 = (1, C) ∧ fs.t 4 = .int .i64 i ∧
    (if i = 0 then fs.t 3 = .slice (embL [e]) .clip ∧ fs.S = S0 else ∃ p, fs.t 3 = .slice (embL (e :: nodesL (kids.take i))) (.own S0.T.length p) ∧ fs.S = ⟨S0.H, S0.T ++ [p]⟩)

def allTok (x : X) : Tok := match x with | .mk k _ _ _ _ _ kids => if k == 4 then .clip else if kids.length = 0 then .clip else .non

theorem take_size (l : List X) (i : Nat) : sizeL (l.take i) ≤ sizeL l := by
  have : sizeL l = sizeL (l.take i) + sizeL (l.drop i) := by rw [← sizeL_append, List.take_append_drop]
  omega

end Go.Proofs.YtmhidempoabehaaGreatDoor.PT
/- Whether an expression may be, evaluated. No condition. -/
namespace Go.Proofs.YtmhidempoabehaaGreatDoor.PT
set_option linter.unusedVariables false
set_option linter.unusedSimpArgs false
open Go AE EX
set_option maxRecDepth 100000

def Good : X → Prop
  | .mk k nm n lo hi _ kids => kinds k ∧ (k ≠ 4 → (kids.length : Int) = kidsI k) ∧ (k = 4 → SetOK kids) ∧ Fits k nm n lo hi

theorem kidsI_vals {k : Int} (h : kinds k) (h4 : k ≠ 4) : 0 ≤ kidsI k ∧ kidsI k ≤ 2 := by
  have := (kinds_iff k).1 h
  unfold kidsI
  rw [if_neg (by omega), if_neg h4]
  split
  · omega
  · split <;> omega
theorem kidsI_out {k : Int} (h : ¬ kinds k) : kidsI k = -2 := by
  rw [kinds_iff] at h
  unfold kidsI
  rw [if_pos (by omega)]

end Go.Proofs.YtmhidempoabehaaGreatDoor.PT
/- Whether an expression may be, evaluated (2). No condition. -/
namespace Go.Proofs.YtmhidempoabehaaGreatDoor.PT
set_option linter.unusedVariables false
set_option linter.unusedSimpArgs false
open Go AE EX
set_option maxRecDepth 100000

/-- an expression that may be -/
def OKx (x : X) : Prop := x.dep ≤ 12 ∧ x.nodes.length ≤ 64 ∧ ∀ y ∈ x.nodes, Good y
mutual
theorem size7 : ∀ x : X, 7 * x.size ≤ x.bulk
  | .mk _ nm _ _ _ _ kids => by have := size7L kids; simp only [X.size, X.bulk]; omega
theorem size7L : ∀ l : List X, 7 * sizeL l ≤ bulkL l
  | [] => by simp [sizeL]
  | x :: l => by have := size7 x; have := size7L l; simp only [sizeL, bulkL]; omega
end

end Go.Proofs.YtmhidempoabehaaGreatDoor.PT
/- ast's small functions, evaluated. No condition. -/
namespace Go.Proofs.YtmhidempoabehaaGreatDoor.NF
set_option linter.unusedVariables false
set_option linter.unusedSimpArgs false
open Go AE EX PT
set_option maxRecDepth 100000

theorem ev_inner (n : Nat) (k : Int) (nm : List UInt8) (a lo hi : Int) (tk : Bool) (kids : List X) (S : St) :
    ev Tryz.prog E (n + 1) 47 [(X.mk k nm a lo hi tk kids).emb] S = some (.ret (if k == 4 then .slice [] .clip else .slice (embL kids) (tokOf tk)), S) := by
  simp only [X.emb]
  have hf : finish S (.slice [] .clip) S = some (.slice [] .clip, S) := fin_clip [] S
  have hf2 : finish S (.slice (embL kids) (tokOf tk)) S = some (.slice (embL kids) (tokOf tk), S) :=
    finish_same (by simp [AV.sealed, sealed_embL]) (by cases tk <;> simp [AV.strip, strip_embL, tokOf]) (by cases tk <;> simp [AV.low, low_embL, tokOf]) rfl rfl
  rw [ev_enter (n := n) (show E.ok 47 = true from rfl) Tryz.func47 (fn := Tryz.f47) rfl (Nat.le_of_ble_eq_true rfl) (by decide +kernel)]
  cases h4 : k == 4
  · simp (disch := first | (simp only [List.length_append, List.length_cons, List.length_nil]; omega) | (simp; done) | assumption) [AV.cells?, AV.isCell, Tryz.f47, E_esc, k24, c24, a24, k3, c3, a3, k22, c22, a22, fq0, fq5, bq3, h4, hf2]
  · simp (disch := first | (simp only [List.length_append, List.length_cons, List.length_nil]; omega) | (simp; done) | assumption) [AV.cells?, AV.isCell, Tryz.f47, E_esc, k24, c24, a24, k3, c3, a3, k22, c22, a22, fq0, fq5, bq3, h4, hf]
end Go.Proofs.YtmhidempoabehaaGreatDoor.NF
/- ast's depth and size, evaluated. No condition. -/
namespace Go.Proofs.YtmhidempoabehaaGreatDoor.NF
set_option linter.unusedVariables false
set_option linter.unusedSimpArgs false
open Go AE EX PT
set_option maxRecDepth 100000

noncomputable def adLoop : Code := cutC (bodyOf Tryz.f28) [1, 1, 0, 1, 0, 0]
noncomputable def ad0 : Code := cutC (bodyOf Tryz.f28) [0]
noncomputable def ad1 : Code := cutC (bodyOf Tryz.f28) [1, 0]
noncomputable def ad2 : Code := cutC (bodyOf Tryz.f28) [1, 1, 0, 0]
noncomputable def ad3 : Code := cutC (bodyOf Tryz.f28) [1, 1, 1]
theorem f57b : Tryz.f28.body = some (.seq ad0 (.seq ad1 (.seq (.seq ad2 (.block 0 (.loop adLoop))) ad3))) := rfl

def ADI (kids : List X) (tok : Tok) (S0 : St) (i : Nat) (fs : FS) : Prop :=
  fs.t 7 = .slice (embL kids) tok ∧ fs.t 8 = .int .i64 kids.length ∧ fs.t 9 = .int .i64 i ∧ fs.t 3 = .int .i64 (depF (kids.take i)) ∧ fs.S = S0

theorem ad_round (n : Nat) (kids : List X) (tok : Tok) (S0 : St) (hs : kids.length ≤ 1099511627776)
    (hrec : ∀ x ∈ kids, ∀ S, ev Tryz.prog E n 28 [x.emb] S = some (.ret (.int .i64 x.dep), S)) (i : Nat) (hi : i < kids.length) (fs : FS) (h : ADI kids tok S0 i fs) :
    ∃ fs', evCode ⟨Tryz.prog, E.esc 28, n⟩ (ev Tryz.prog E n) (E.ps 28) n adLoop fs = some (.norm, fs') ∧ ADI kids tok S0 (i + 1) fs' := by
  obtain ⟨t, b, v, S⟩ := fs
  obtain ⟨h1, h2, h3, h4, h5⟩ := h
  simp only at h1 h2 h3 h4 h5
  subst h5
  have hltz : (i : Int) < kids.length := by omega
  have hxe : kids[i]? = some kids[i] := List.getElem?_eq_getElem hi
  have hr := hrec kids[i] (List.getElem_mem hi) S
  have hsplit : kids.take (i + 1) = kids.take i ++ [kids[i]] := by rw [List.take_add_one, hxe]; rfl
  have hd : depF (kids.take (i + 1)) = if depF (kids.take i) < kids[i].dep then kids[i].dep else depF (kids.take i) := by rw [hsplit, depF_snoc]
  have hemb : (embL kids)[i]? = some kids[i].emb := by rw [embL_map, List.getElem?_map, hxe]; rfl
  have ha1 := cells_all kids[i]
  have hc1 := (cells_ok kids[i]).2
  have ht1 : List.take 6 kids[i].cells = kids[i].cells := List.take_of_length_le (by omega)
  rw [emb_cells] at hemb hr
  generalize kids[i].dep = d at *
  generalize kids[i].cells = C1 at *
  generalize depF (kids.take i) = e at *
  have hw : IntKind.i64.wrap ((i : Int) + 1) = (i : Int) + 1 := wrap64 _ (by omega)
  obtain ⟨z, hz⟩ := ii24
  by_cases hlt : e < d
  · have hltz' : (e : Int) < d := by omega
    refine ⟨_, by
      simp (disch := first | (simp only [List.length_append, List.length_cons, List.length_nil]; omega) | (simp; done) | assumption) [AV.cells?, AV.isCell, adLoop, cutC, bodyOf, Tryz.f28, E_esc, h1, h2, h3, h4, k24, c24, a24, z24, i24, hz, sq22, bq3, hi, hltz, hemb, hr, ha1, hc1, ht1, hlt, hltz']
      rfl, by simp [upd, h1], by simp [upd, h2], by simp [upd, hw], by rw [hd, if_pos hlt]; simp [upd], rfl⟩
  · have hltz' : ¬ (e : Int) < d := by omega
    refine ⟨_, by
      simp (disch := first | (simp only [List.length_append, List.length_cons, List.length_nil]; omega) | (simp; done) | assumption) [AV.cells?, AV.isCell, adLoop, cutC, bodyOf, Tryz.f28, E_esc, h1, h2, h3, h4, k24, c24, a24, z24, i24, hz, sq22, bq3, hi, hltz, hemb, hr, ha1, hc1, ht1, hlt, hltz']
      rfl, by simp [upd, h1], by simp [upd, h2], by simp [upd, hw], by rw [hd, if_neg hlt]; simp [upd, h4], rfl⟩

theorem ad_all (n : Nat) (kids : List X) (tok : Tok) (S : St) (hs : kids.length ≤ 1048576) (hl : kids.length < n)
    (hrec : ∀ x ∈ kids, ∀ S, ev Tryz.prog E n 28 [x.emb] S = some (.ret (.int .i64 x.dep), S)) (fs : FS) (h : ADI kids tok S 0 fs) :
    ∃ fs', iter n (evCode ⟨Tryz.prog, E.esc 28, n⟩ (ev Tryz.prog E n) (E.ps 28) n adLoop) fs = some (.exit 0, fs') ∧ fs'.t 3 = .int .i64 (depL kids) ∧ fs'.S = S := by
  obtain ⟨⟨o, fs'⟩, r1, r2, r3⟩ := iter_range (Q := fun r => r.1 = .exit 0 ∧ ADI kids tok S kids.length r.2) (len := kids.length)
    (fun i hi fs h => ad_round n kids tok S (by omega) hrec i hi fs h)
    (fun fs h => by
      obtain ⟨t, b, v, S'⟩ := fs
      obtain ⟨h1, h2, h3, h4, h5⟩ := h
      simp only at h1 h2 h3 h4 h5
      refine ⟨.exit 0, _, by
        simp (disch := first | (simp only [List.length_append, List.length_cons, List.length_nil]; omega) | (simp; done) | assumption) [AV.cells?, AV.isCell, adLoop, cutC, bodyOf, Tryz.f28, h1, h2, h3, bq3]
        rfl, by simp, rfl, by simp [upd, h1], by simp [upd, h2], by simp [upd, h3], by simp [upd, h4], h5⟩) kids.length 0 n fs (by omega) hl h
  simp only at r2
  subst r2
  obtain ⟨_, _, _, q4, q5⟩ := r3
  rw [List.take_length, depF_eq] at q4
  exact ⟨fs', r1, q4, q5⟩

theorem ev_aDepth : ∀ (m : Nat) (x : X), x.size ≤ m → m ≤ 1048576 → ∀ n, m + 2 ≤ n → ∀ S, ev Tryz.prog E n 28 [x.emb] S = some (.ret (.int .i64 x.dep), S)
  | 0, x, hm, _, _, _, _ => absurd hm (by have := size_pos x; omega)
  | m + 1, x, hm, hmm, n, hn, S => by
    obtain ⟨n, rfl⟩ : ∃ k, n = k + 2 := ⟨n - 2, by omega⟩
    have hds := dep_size x
    obtain ⟨k, nm, a, lo, hi, tk, kids⟩ := x
    simp only [X.size] at hm hds
    have hl := sizeL_length kids
    have hin := ev_inner n k nm a lo hi tk kids S
    have hlen := embL_length kids
    simp only [X.emb] at hin ⊢
    rw [ev_enter (n := n + 1) (show E.ok 28 = true from rfl) Tryz.func28 f57b (Nat.le_of_ble_eq_true rfl) (by decide +kernel)]
    cases h4 : k == 4
    · rw [h4] at hin
      simp only [Bool.false_eq_true, if_false] at hin
      obtain ⟨⟨t, b, v, S'⟩, hr, g3, g5⟩ := ad_all (n + 1) kids (tokOf tk) S (by omega) (by omega) (fun x hx S => ev_aDepth m x (by have := sizeL_mem hx; omega) (by omega) (n + 1) (by omega) S)
        ⟨upd 9 (.int .i64 0) (upd 8 (.int .i64 kids.length) (upd 7 (.slice (embL kids) (tokOf tk)) (upd 6 (.agg [.int .i64 k, .str nm, .int .i64 a, .int .i64 lo, .int .i64 hi, .slice (embL kids) (tokOf tk)]) (upd 3 (.int .i64 0) (upd 2 (.int .i64 0) (upd 1 (.loc (n + 1) 1 1 0) (argsA [.agg [.int .i64 k, .str nm, .int .i64 a, .int .i64 lo, .int .i64 hi, .slice (embL kids) (tokOf tk)]]))))))),
          upd 1 (1, [.int .i64 k, .str nm, .int .i64 a, .int .i64 lo, .int .i64 hi, .slice (embL kids) (tokOf tk)]) (fun _ => (0, [])), 7, S⟩
        ⟨by simp [upd], by simp [upd], by simp [upd], by simp [upd, depF], rfl⟩
      simp only at g3 g5
      subst g5
      have w1 : IntKind.i64.wrap ((depL kids : Int) + 1) = (depL kids : Int) + 1 := wrap64 _ (by have := depL_size kids; omega)
      simp (disch := first | (simp only [List.length_append, List.length_cons, List.length_nil]; omega) | (simp; done) | assumption) [AV.cells?, AV.isCell, ad0, ad1, ad2, ad3, cutC, bodyOf, Tryz.f28, E_esc, k24, c24, a24, sq22, bq3, hin, hlen, hr, g3, w1, X.dep, h4]
    · rw [h4] at hin
      simp only [if_true] at hin
      obtain ⟨⟨t, b, v, S'⟩, hr, g3, g5⟩ := ad_all (n + 1) [] .clip S (by simp) (by simp) (fun x hx S => by cases hx)
        ⟨upd 9 (.int .i64 0) (upd 8 (.int .i64 0) (upd 7 (.slice [] .clip) (upd 6 (.agg [.int .i64 k, .str nm, .int .i64 a, .int .i64 lo, .int .i64 hi, .slice (embL kids) (tokOf tk)]) (upd 3 (.int .i64 0) (upd 2 (.int .i64 0) (upd 1 (.loc (n + 1) 1 1 0) (argsA [.agg [.int .i64 k, .str nm, .int .i64 a, .int .i64 lo, .int .i64 hi, .slice (embL kids) (tokOf tk)]]))))))),
          upd 1 (1, [.int .i64 k, .str nm, .int .i64 a, .int .i64 lo, .int .i64 hi, .slice (embL kids) (tokOf tk)]) (fun _ => (0, [])), 7, S⟩
        ⟨by simp [upd, embL], by simp [upd], by simp [upd], by simp [upd, depF], rfl⟩
      simp only at g3 g5
      subst g5
      have w1 : IntKind.i64.wrap 1 = 1 := wrap64 _ (by omega)
      simp (disch := first | (simp only [List.length_append, List.length_cons, List.length_nil]; omega) | (simp; done) | assumption) [AV.cells?, AV.isCell, ad0, ad1, ad2, ad3, cutC, bodyOf, Tryz.f28, E_esc, k24, c24, a24, sq22, bq3, hin, hr, g3, w1, X.dep, h4, depL]
end Go.Proofs.YtmhidempoabehaaGreatDoor.NF
/- ast's size, evaluated. No condition. -/
namespace Go.Proofs.YtmhidempoabehaaGreatDoor.NF
set_option linter.unusedVariables false
set_option linter.unusedSimpArgs false
open Go AE EX PT
set_option maxRecDepth 100000

noncomputable def szLoop : Code := cutC (bodyOf Tryz.f29) [1, 1, 0, 1, 0, 0]
noncomputable def sz0 : Code := cutC (bodyOf Tryz.f29) [0]
noncomputable def sz1 : Code := cutC (bodyOf Tryz.f29) [1, 0]
noncomputable def sz2 : Code := cutC (bodyOf Tryz.f29) [1, 1, 0, 0]
noncomputable def sz3 : Code := cutC (bodyOf Tryz.f29) [1, 1, 1]
theorem f58b : Tryz.f29.body = some (.seq sz0 (.seq sz1 (.seq (.seq sz2 (.block 0 (.loop szLoop))) sz3))) := rfl

def SZI (kids : List X) (tok : Tok) (S0 : St) (i : Nat) (fs : FS) : Prop :=
  fs.t 7 = .slice (embL kids) tok ∧ fs.t 8 = .int .i64 kids.length ∧ fs.t 9 = .int .i64 i ∧ fs.t 3 = .int .i64 (((nodesL (kids.take i)).length : Int) + 1) ∧ fs.S = S0

theorem sz_round (n : Nat) (kids : List X) (tok : Tok) (S0 : St) (hs : sizeL kids ≤ 1048576)
    (hrec : ∀ x ∈ kids, ∀ S, ev Tryz.prog E n 29 [x.emb] S = some (.ret (.int .i64 x.nodes.length), S)) (i : Nat) (hi : i < kids.length) (fs : FS) (h : SZI kids tok S0 i fs) :
    ∃ fs', evCode ⟨Tryz.prog, E.esc 29, n⟩ (ev Tryz.prog E n) (E.ps 29) n szLoop fs = some (.norm, fs') ∧ SZI kids tok S0 (i + 1) fs' := by
  obtain ⟨t, b, v, S⟩ := fs
  obtain ⟨h1, h2, h3, h4, h5⟩ := h
  simp only at h1 h2 h3 h4 h5
  subst h5
  have hlk := sizeL_length kids
  have hltz : (i : Int) < kids.length := by omega
  have hxe : kids[i]? = some kids[i] := List.getElem?_eq_getElem hi
  have hr := hrec kids[i] (List.getElem_mem hi) S
  have hsplit : kids.take (i + 1) = kids.take i ++ [kids[i]] := by rw [List.take_add_one, hxe]; rfl
  have hd : (nodesL (kids.take (i + 1))).length = (nodesL (kids.take i)).length + kids[i].nodes.length := by rw [hsplit, nodesL_append]; simp [nodesL]
  have hb1 := nodesL_size (kids.take (i + 1))
  have hb2 := take_size kids (i + 1)
  have hemb : (embL kids)[i]? = some kids[i].emb := by rw [embL_map, List.getElem?_map, hxe]; rfl
  have ha1 := cells_all kids[i]
  have hc1 := (cells_ok kids[i]).2
  have ht1 : List.take 6 kids[i].cells = kids[i].cells := List.take_of_length_le (by omega)
  rw [emb_cells] at hemb hr
  generalize kids[i].nodes.length = d at *
  generalize kids[i].cells = C1 at *
  generalize (nodesL (kids.take i)).length = e at *
  have hw : IntKind.i64.wrap ((i : Int) + 1) = (i : Int) + 1 := wrap64 _ (by omega)
  have hw2 : IntKind.i64.wrap ((e : Int) + 1 + d) = (e : Int) + 1 + d := wrap64 _ (by omega)
  obtain ⟨z, hz⟩ := ii24
  refine ⟨_, by
    simp (disch := first | (simp only [List.length_append, List.length_cons, List.length_nil]; omega) | (simp; done) | assumption) [AV.cells?, AV.isCell, szLoop, cutC, bodyOf, Tryz.f29, E_esc, h1, h2, h3, h4, k24, c24, a24, z24, i24, hz, sq22, bq3, hi, hltz, hemb, hr, ha1, hc1, ht1, hw2]
    rfl, by simp [upd, h1], by simp [upd, h2], by simp [upd, hw], by rw [hd]; simp [upd]; omega, rfl⟩

theorem sz_all (n : Nat) (kids : List X) (tok : Tok) (S : St) (hs : sizeL kids ≤ 1048576) (hl : kids.length < n)
    (hrec : ∀ x ∈ kids, ∀ S, ev Tryz.prog E n 29 [x.emb] S = some (.ret (.int .i64 x.nodes.length), S)) (fs : FS) (h : SZI kids tok S 0 fs) :
    ∃ fs', iter n (evCode ⟨Tryz.prog, E.esc 29, n⟩ (ev Tryz.prog E n) (E.ps 29) n szLoop) fs = some (.exit 0, fs') ∧ fs'.t 3 = .int .i64 (((nodesL kids).length : Int) + 1) ∧ fs'.S = S := by
  obtain ⟨⟨o, fs'⟩, r1, r2, r3⟩ := iter_range (Q := fun r => r.1 = .exit 0 ∧ SZI kids tok S kids.length r.2) (len := kids.length)
    (fun i hi fs h => sz_round n kids tok S hs hrec i hi fs h)
    (fun fs h => by
      obtain ⟨t, b, v, S'⟩ := fs
      obtain ⟨h1, h2, h3, h4, h5⟩ := h
      simp only at h1 h2 h3 h4 h5
      refine ⟨.exit 0, _, by
        simp (disch := first | (simp only [List.length_append, List.length_cons, List.length_nil]; omega) | (simp; done) | assumption) [AV.cells?, AV.isCell, szLoop, cutC, bodyOf, Tryz.f29, h1, h2, h3, bq3]
        rfl, by simp, rfl, by simp [upd, h1], by simp [upd, h2], by simp [upd, h3], by simp [upd, h4], h5⟩) kids.length 0 n fs (by omega) hl h
  simp only at r2
  subst r2
  obtain ⟨_, _, _, q4, q5⟩ := r3
  rw [List.take_length] at q4
  exact ⟨fs', r1, q4, q5⟩

theorem ev_aSize : ∀ (m : Nat) (x : X), x.size ≤ m → m ≤ 1048576 → ∀ n, m + 2 ≤ n → ∀ S, ev Tryz.prog E n 29 [x.emb] S = some (.ret (.int .i64 x.nodes.length), S)
  | 0, x, hm, _, _, _, _ => absurd hm (by have := size_pos x; omega)
  | m + 1, x, hm, hmm, n, hn, S => by
    obtain ⟨n, rfl⟩ : ∃ k, n = k + 2 := ⟨n - 2, by omega⟩
    have hds := nodes_size x
    obtain ⟨k, nm, a, lo, hi, tk, kids⟩ := x
    simp only [X.size] at hm hds
    have hl := sizeL_length kids
    have hin := ev_inner n k nm a lo hi tk kids S
    have hlen := embL_length kids
    simp only [X.emb] at hin ⊢
    rw [ev_enter (n := n + 1) (show E.ok 29 = true from rfl) Tryz.func29 f58b (Nat.le_of_ble_eq_true rfl) (by decide +kernel)]
    cases h4 : k == 4
    · rw [h4] at hin
      simp only [Bool.false_eq_true, if_false] at hin
      obtain ⟨⟨t, b, v, S'⟩, hr, g3, g5⟩ := sz_all (n + 1) kids (tokOf tk) S (by omega) (by omega) (fun x hx S => ev_aSize m x (by have := sizeL_mem hx; omega) (by omega) (n + 1) (by omega) S)
        ⟨upd 9 (.int .i64 0) (upd 8 (.int .i64 kids.length) (upd 7 (.slice (embL kids) (tokOf tk)) (upd 6 (.agg [.int .i64 k, .str nm, .int .i64 a, .int .i64 lo, .int .i64 hi, .slice (embL kids) (tokOf tk)]) (upd 3 (.int .i64 1) (upd 2 (.int .i64 0) (upd 1 (.loc (n + 1) 1 1 0) (argsA [.agg [.int .i64 k, .str nm, .int .i64 a, .int .i64 lo, .int .i64 hi, .slice (embL kids) (tokOf tk)]]))))))),
          upd 1 (1, [.int .i64 k, .str nm, .int .i64 a, .int .i64 lo, .int .i64 hi, .slice (embL kids) (tokOf tk)]) (fun _ => (0, [])), 7, S⟩
        ⟨by simp [upd], by simp [upd], by simp [upd], by simp [upd, nodesL], rfl⟩
      simp only at g3 g5
      subst g5
      simp (disch := first | (simp only [List.length_append, List.length_cons, List.length_nil]; omega) | (simp; done) | assumption) [AV.cells?, AV.isCell, sz0, sz1, sz2, sz3, cutC, bodyOf, Tryz.f29, E_esc, k24, c24, a24, sq22, bq3, hin, hlen, hr, g3, X.nodes, h4]
    · rw [h4] at hin
      simp only [if_true] at hin
      obtain ⟨⟨t, b, v, S'⟩, hr, g3, g5⟩ := sz_all (n + 1) [] .clip S (by simp [sizeL]) (by simp) (fun x hx S => by cases hx)
        ⟨upd 9 (.int .i64 0) (upd 8 (.int .i64 0) (upd 7 (.slice [] .clip) (upd 6 (.agg [.int .i64 k, .str nm, .int .i64 a, .int .i64 lo, .int .i64 hi, .slice (embL kids) (tokOf tk)]) (upd 3 (.int .i64 1) (upd 2 (.int .i64 0) (upd 1 (.loc (n + 1) 1 1 0) (argsA [.agg [.int .i64 k, .str nm, .int .i64 a, .int .i64 lo, .int .i64 hi, .slice (embL kids) (tokOf tk)]]))))))),
          upd 1 (1, [.int .i64 k, .str nm, .int .i64 a, .int .i64 lo, .int .i64 hi, .slice (embL kids) (tokOf tk)]) (fun _ => (0, [])), 7, S⟩
        ⟨by simp [upd, embL], by simp [upd], by simp [upd], by simp [upd, nodesL], rfl⟩
      simp only at g3 g5
      subst g5
      simp (disch := first | (simp only [List.length_append, List.length_cons, List.length_nil]; omega) | (simp; done) | assumption) [AV.cells?, AV.isCell, sz0, sz1, sz2, sz3, cutC, bodyOf, Tryz.f29, E_esc, k24, c24, a24, sq22, bq3, hin, hr, g3, X.nodes, h4, nodesL]
end Go.Proofs.YtmhidempoabehaaGreatDoor.NF
/- lex's names and texts, evaluated. No condition. -/
namespace Go.Proofs.YtmhidempoabehaaGreatDoor.NF
set_option linter.unusedVariables false
set_option linter.unusedSimpArgs false
open Go AE EX PT
set_option maxRecDepth 100000

def low5 (c : Int) : Int := IntKind.u8.wrap (BitVec.ofInt IntKind.u8.bits c ||| BitVec.ofInt IntKind.u8.bits 32).toNat
theorem evBin_or {bq : Bool} {a : Int} : evBin bq .or (.int .u8 a) (.int .u8 32) = some (.int .u8 (low5 a)) := by rw [evBin]; rfl
theorem letter256 : ∀ i : Fin 256, ((decide (97 ≤ low5 i.val) && decide (low5 i.val ≤ 122)) || ((i.val : Int) == 95)) = headB i.val := by decide +kernel
theorem letter_head (c : UInt8) : ((decide (97 ≤ low5 c.toNat) && decide (low5 c.toNat ≤ 122)) || ((c.toNat : Int) == 95)) = headB c.toNat := letter256 ⟨c.toNat, c.toNat_lt⟩

theorem ev_letter (n : Nat) (c : UInt8) (S : St) : ev Tryz.prog E (n + 1) 34 [.int .u8 (c.toNat : Int)] S = some (.ret (.bool (headB c.toNat)), S) := by
  rw [ev_enter (n := n) (show E.ok 34 = true from rfl) Tryz.func34 (fn := Tryz.f34) rfl (Nat.le_of_ble_eq_true rfl) (by decide +kernel)]
  rw [← letter_head]
  cases h1 : decide (97 ≤ low5 c.toNat) <;> cases h2 : decide (low5 c.toNat ≤ 122) <;> cases h3 : ((c.toNat : Int) == 95) <;>
    simp (disch := first | (simp only [List.length_append, List.length_cons, List.length_nil]; omega) | (simp; done) | assumption) [AV.cells?, AV.isCell, evBin_or, Tryz.f34, bq5, h1, h2, h3]

def digB (c : Int) : Bool := decide (48 ≤ c) && decide (c ≤ 57)
theorem ev_digit (n : Nat) (c : Int) (S : St) : ev Tryz.prog E (n + 1) 36 [.int .u8 c] S = some (.ret (.bool (digB c)), S) := by
  rw [ev_enter (n := n) (show E.ok 36 = true from rfl) Tryz.func36 (fn := Tryz.f36) rfl (Nat.le_of_ble_eq_true rfl) (by decide +kernel)]
  cases h1 : decide (48 ≤ c) <;> cases h2 : decide (c ≤ 57) <;>
    simp (disch := first | (simp only [List.length_append, List.length_cons, List.length_nil]; omega) | (simp; done) | assumption) [AV.cells?, AV.isCell, Tryz.f36, bq5, digB, h1, h2]

/-! ### names -/
noncomputable def nmLoop : Code := cutC (bodyOf Tryz.f67) [1, 0, 1, 0, 0]
noncomputable def nm0 : Code := cutC (bodyOf Tryz.f67) [0]
noncomputable def nm1 : Code := cutC (bodyOf Tryz.f67) [1, 0, 0]
noncomputable def nm2 : Code := cutC (bodyOf Tryz.f67) [1, 1]
theorem f79b : Tryz.f67.body = some (.seq nm0 (.seq (.seq nm1 (.block 0 (.loop nmLoop))) nm2)) := rfl

def nmOK (s : List UInt8) (j : Nat) : Prop := ∀ c, s[j]? = some c → (headB c.toNat || (j != 0 && digB c.toNat)) = true
def NMI (s : List UInt8) (S0 : St) (m : Nat) (fs : FS) : Prop :=
  ∃ i, i + m = s.length ∧ fs.t 0 = .str s ∧ fs.t 5 = .int .i64 s.length ∧ fs.t 6 = .int .i64 i ∧ fs.S = S0 ∧ ∀ j, j < i → nmOK s j
def NMQ (s : List UInt8) (S0 : St) (r : Out × FS) : Prop :=
  r.2.S = S0 ∧ ((r.1 = .exit 0 ∧ r.2.t 0 = .str s ∧ ∀ j, j < s.length → nmOK s j) ∨ (r.1 = .ret ∧ r.2.t 2 = .bool false ∧ ∃ j, ¬ nmOK s j))

theorem nm_round (n : Nat) (s : List UInt8) (S0 : St) (hs : s.length ≤ 1048576) (m : Nat) (fs : FS) (h : NMI s S0 m fs) :
    ∃ o fs', evCode ⟨Tryz.prog, E.esc 67, n + 1⟩ (ev Tryz.prog E (n + 1)) (E.ps 67) (n + 1) nmLoop fs = some (o, fs') ∧ ((o = .norm ∧ ∃ m', m' < m ∧ NMI s S0 m' fs') ∨ (o ≠ .norm ∧ NMQ s S0 (o, fs'))) := by
  obtain ⟨t, b, v, S⟩ := fs
  obtain ⟨i, hi, h1, h2, h3, h4, h5⟩ := h
  simp only at h1 h2 h3 h4
  subst h4
  cases m with
  | zero =>
    have hi : i = s.length := by omega
    subst hi
    refine ⟨.exit 0, _, by
      simp (disch := first | (simp only [List.length_append, List.length_cons, List.length_nil]; omega) | (simp; done) | assumption) [AV.cells?, AV.isCell, nmLoop, cutC, bodyOf, Tryz.f67, h1, h2, h3, bq3, sq9]
      rfl, .inr ⟨by simp, rfl, .inl ⟨rfl, by simp [upd, h1], h5⟩⟩⟩
  | succ m =>
    have hlt : i < s.length := by omega
    have hltz : (i : Int) < s.length := by omega
    have hxe : s[i]? = some s[i] := List.getElem?_eq_getElem hlt
    have hw : IntKind.i64.wrap ((i : Int) + 1) = (i : Int) + 1 := wrap64 _ (by omega)
    have hL := ev_letter n s[i] S
    have hD := ev_digit n (s[i].toNat : Int) S
    have hidx : evIndex Tryz.prog 9 (.str s) (.int .i64 (i : Int)) = some (.int .u8 (s[i].toNat : Int)) := by simp [evIndex, sq9, hlt]
    generalize s[i] = c at *
    have good : (headB c.toNat || (i != 0 && digB c.toNat)) = true → ∀ j, j < i + 1 → nmOK s j := fun hg j hj => by
      by_cases hji : j = i
      · subst hji; intro c' hc'; rw [hxe] at hc'; cases hc'; exact hg
      · exact h5 j (by omega)
    cases e1 : headB c.toNat
    · rw [e1] at hL
      cases e0 : ((i : Int) == 0)
      · have i0 : (i != 0) = true := by simp at e0; simp; omega
        cases e2 : digB c.toNat
        · rw [e2] at hD
          refine ⟨.ret, _, by
            simp (disch := first | (simp only [List.length_append, List.length_cons, List.length_nil]; omega) | (simp; done) | assumption) [AV.cells?, AV.isCell, -evIndex, nmLoop, cutC, bodyOf, Tryz.f67, h1, h2, h3, bq3, sq9, hidx, hlt, hltz, hL, hD, e0]
            rfl, .inr ⟨by simp, rfl, .inr ⟨rfl, by simp [upd], i, fun g => by have := g c hxe; rw [e1, e2, i0] at this; simp at this⟩⟩⟩
        · rw [e2] at hD
          refine ⟨.norm, _, by
            simp (disch := first | (simp only [List.length_append, List.length_cons, List.length_nil]; omega) | (simp; done) | assumption) [AV.cells?, AV.isCell, -evIndex, nmLoop, cutC, bodyOf, Tryz.f67, h1, h2, h3, bq3, sq9, hidx, hlt, hltz, hL, hD, e0]
            rfl, .inl ⟨rfl, m, by omega, i + 1, by omega, by simp [upd, h1], by simp [upd, h2], by simp [upd, hw], rfl, good (by rw [e1, e2, i0]; rfl)⟩⟩
      · have i0 : i = 0 := by simp at e0; omega
        refine ⟨.ret, _, by
          simp (disch := first | (simp only [List.length_append, List.length_cons, List.length_nil]; omega) | (simp; done) | assumption) [AV.cells?, AV.isCell, -evIndex, nmLoop, cutC, bodyOf, Tryz.f67, h1, h2, h3, bq3, sq9, hidx, hlt, hltz, hL, e0]
          rfl, .inr ⟨by simp, rfl, .inr ⟨rfl, by simp [upd], i, fun g => by have := g c hxe; rw [e1, i0] at this; simp at this⟩⟩⟩
    · rw [e1] at hL
      refine ⟨.norm, _, by
        simp (disch := first | (simp only [List.length_append, List.length_cons, List.length_nil]; omega) | (simp; done) | assumption) [AV.cells?, AV.isCell, -evIndex, nmLoop, cutC, bodyOf, Tryz.f67, h1, h2, h3, bq3, sq9, hidx, hlt, hltz, hL]
        rfl, .inl ⟨rfl, m, by omega, i + 1, by omega, by simp [upd, h1], by simp [upd, h2], by simp [upd, hw], rfl, good (by rw [e1]; rfl)⟩⟩

theorem tl_eq (c : UInt8) : tl c = (headB c.toNat || digB c.toNat) := rfl
theorem nmOK_all (c : UInt8) (r : List UInt8) : (∀ j, j < (c :: r).length → nmOK (c :: r) j) ↔ headB c.toNat = true ∧ r.all tl = true := by
  constructor
  · intro h
    refine ⟨by simpa using h 0 (by simp) c rfl, ?_⟩
    rw [List.all_eq_true]
    intro x hx
    obtain ⟨i, hi, rfl⟩ := List.getElem_of_mem hx
    have := h (i + 1) (by simpa using hi) r[i] (by simp)
    rw [tl_eq]
    simpa using this
  · intro ⟨h1, h2⟩ j hj c' hc'
    cases j with
    | zero => simp at hc'; subst hc'; simp [h1]
    | succ j =>
      simp at hc'
      have := List.all_eq_true.1 h2 c' (List.mem_of_getElem? hc')
      rw [tl_eq] at this
      simpa using this
theorem nameB_iff (s : List UInt8) : nameB s = true ↔ s ≠ [] ∧ s.length ≤ 16 ∧ ∀ j, j < s.length → nmOK s j := by
  cases s with
  | nil => simp [nameB]
  | cons c r =>
    rw [nmOK_all]
    simp [nameB, and_assoc]

theorem ev_lName (n : Nat) (s : List UInt8) (hs : s.length ≤ 1048576) (hn : s.length < n) (S : St) : ev Tryz.prog E (n + 2) 67 [.str s] S = some (.ret (.bool (nameB s)), S) := by
  rw [show n + 2 = (n + 1) + 1 from rfl, ev_enter (n := n + 1) (show E.ok 67 = true from rfl) Tryz.func67 f79b (Nat.le_of_ble_eq_true rfl) (by decide +kernel)]
  obtain ⟨⟨o, t, b, v, S'⟩, hr, hS, hq⟩ := iter_meas (fun m fs h => nm_round n s S hs m fs h) s.length (n + 1)
    ⟨upd 6 (.int .i64 0) (upd 5 (.int .i64 s.length) (upd 4 (.str s) (upd 2 (.bool false) (argsA [.str s])))), fun _ => (0, []), 4, S⟩ (by omega)
    ⟨0, by omega, by simp [upd, argsA], by simp [upd], by simp [upd], rfl, fun j hj => by omega⟩
  simp only at hS hq
  subst hS
  rcases hq with ⟨rfl, g0, ha⟩ | ⟨rfl, h2, j, hno⟩
  · cases e0 : (s == [])
    · have e0' : s ≠ [] := fun h => by subst h; simp at e0
      cases e1 : decide ((s.length : Int) ≤ 16)
      · have hp : nameB s = false := by
          rw [Bool.eq_false_iff]; intro h
          have := ((nameB_iff s).1 h).2.1
          simp at e1; omega
        have e1' : ¬ s.length ≤ 16 := by simp at e1; omega
        simp (disch := first | (simp only [List.length_append, List.length_cons, List.length_nil]; omega) | (simp; done) | assumption) [AV.cells?, AV.isCell, nm0, nm1, nm2, cutC, bodyOf, Tryz.f67, bq3, bq9, sq9, hr, g0, hp, bne, e0, e1, e1']
      · have e1' : s.length ≤ 16 := by simp at e1; omega
        have hp : nameB s = true := (nameB_iff s).2 ⟨e0', e1', ha⟩
        simp (disch := first | (simp only [List.length_append, List.length_cons, List.length_nil]; omega) | (simp; done) | assumption) [AV.cells?, AV.isCell, nm0, nm1, nm2, cutC, bodyOf, Tryz.f67, bq3, bq9, sq9, hr, g0, hp, bne, e0, e1, e1']
    · have e0' : s = [] := by simpa using e0
      have hp : nameB s = false := by rw [e0']; rfl
      simp (disch := first | (simp only [List.length_append, List.length_cons, List.length_nil]; omega) | (simp; done) | assumption) [AV.cells?, AV.isCell, nm0, nm1, nm2, cutC, bodyOf, Tryz.f67, bq3, bq9, sq9, hr, g0, hp, bne, e0]
  · have hp : nameB s = false := by
      rw [Bool.eq_false_iff]; intro h
      obtain ⟨_, _, h3⟩ := (nameB_iff s).1 h
      by_cases hj : j < s.length
      · exact hno (h3 j hj)
      · exact hno fun c hc => by rw [List.getElem?_eq_none (by omega)] at hc; cases hc
    simp (disch := first | (simp only [List.length_append, List.length_cons, List.length_nil]; omega) | (simp; done) | assumption) [AV.cells?, AV.isCell, nm0, nm1, nm2, cutC, bodyOf, Tryz.f67, bq3, bq9, sq9, hr, hp, h2]
end Go.Proofs.YtmhidempoabehaaGreatDoor.NF
/- lex.Plain, ast.Kids, ast.span, evaluated. No condition. -/
namespace Go.Proofs.YtmhidempoabehaaGreatDoor.NF
set_option linter.unusedVariables false
set_option linter.unusedSimpArgs false
open Go AE EX PT
set_option maxRecDepth 100000

theorem indexByte_lt0 : ∀ (l : List UInt8) (c : UInt8), decide (Lib.indexByte l c < 0) = l.all fun b => !(b == c)
  | [], c => by simp [Lib.indexByte]
  | b :: l, c => by
    have ih := indexByte_lt0 l c
    have hg := Lib.indexByte_ge l c
    cases e : (b == c)
    · have h1 : Lib.indexByte (b :: l) c = if Lib.indexByte l c = -1 then -1 else Lib.indexByte l c + 1 := by simp [Lib.indexByte, e]
      rw [h1, List.all_cons, e, ← ih]
      split
      · rename_i h
        simp [h]
      · simp; omega
    · simp [Lib.indexByte, e]

theorem badB_eq (c : UInt8) : badB c = ((c == 34) || (c == 10)) := by
  unfold badB
  congr 1
  · rw [Bool.eq_iff_iff]; simp only [beq_iff_eq]
    constructor
    · intro h; exact UInt8.toNat_inj.1 (by simp; omega)
    · intro h; subst h; rfl
  · rw [Bool.eq_iff_iff]; simp only [beq_iff_eq]
    constructor
    · intro h; exact UInt8.toNat_inj.1 (by simp; omega)
    · intro h; subst h; rfl
theorem plain_index (s : List UInt8) : (s.all fun c => !badB c) = (decide (Lib.indexByte s 34 < 0) && decide (Lib.indexByte s 10 < 0)) := by
  rw [indexByte_lt0, indexByte_lt0]
  induction s with
  | nil => rfl
  | cons c l ih =>
    rw [List.all_cons, List.all_cons, List.all_cons, ih, badB_eq, Bool.not_or]
    cases (!(c == 34)) <;> cases (!(c == 10)) <;> cases l.all (fun b => !(b == 34)) <;> cases l.all (fun b => !(b == 10)) <;> rfl

theorem ev_indexByte (n : Nat) (s : List UInt8) (c : Int) (S : St) : ev Tryz.prog E (n + 1) 33 [.str s, .int .u8 c] S = some (.ret (.int .i64 (Lib.indexByte s c.toNat.toUInt8)), S) := rfl

theorem ev_lPlain (n : Nat) (s : List UInt8) (S : St) : ev Tryz.prog E (n + 2) 59 [.str s] S = some (.ret (.bool (plainB s)), S) := by
  have h34 : ev Tryz.prog E (n + 1) 33 [.str s, .int .u8 34] S = some (.ret (.int .i64 (Lib.indexByte s 34)), S) := ev_indexByte n s 34 S
  have h10 : ev Tryz.prog E (n + 1) 33 [.str s, .int .u8 10] S = some (.ret (.int .i64 (Lib.indexByte s 10)), S) := ev_indexByte n s 10 S
  have hp : plainB s = (decide (s.length ≤ 32) && (decide (Lib.indexByte s 34 < 0) && decide (Lib.indexByte s 10 < 0))) := by rw [← plain_index]; rfl
  rw [hp, show n + 2 = (n + 1) + 1 from rfl, ev_enter (n := n + 1) (show E.ok 59 = true from rfl) Tryz.func59 (fn := Tryz.f59) rfl (Nat.le_of_ble_eq_true rfl) (by decide +kernel)]
  generalize Lib.indexByte s 34 = i34 at *
  generalize Lib.indexByte s 10 = i10 at *
  by_cases hs : s.length ≤ 32
  · have hz : (s.length : Int) ≤ 32 := by omega
    cases h2 : decide (i34 < 0) <;> cases h3 : decide (i10 < 0) <;>
      simp (disch := first | (simp only [List.length_append, List.length_cons, List.length_nil]; omega) | (simp; done) | assumption) [AV.cells?, AV.isCell, Tryz.f59, bq3, sq9, h34, h10, h2, h3, hs, hz]
  · have hz : ¬ (s.length : Int) ≤ 32 := by omega
    simp (disch := first | (simp only [List.length_append, List.length_cons, List.length_nil]; omega) | (simp; done) | assumption) [AV.cells?, AV.isCell, Tryz.f59, bq3, sq9, h34, h10, hs, hz]

theorem ev_aKids (n : Nat) (k : Int) (S : St) : ev Tryz.prog E (n + 1) 50 [.int .i64 k] S = some (.ret (.int .i64 (kidsI k)), S) := by
  rw [ev_enter (n := n) (show E.ok 50 = true from rfl) Tryz.func50 (fn := Tryz.f50) rfl (Nat.le_of_ble_eq_true rfl) (by decide +kernel)]
  by_cases hk : kinds k
  · rcases hk with rfl | rfl | rfl | rfl | rfl | rfl | rfl | rfl | rfl | rfl | rfl | rfl | rfl | rfl | rfl | rfl | rfl | rfl | rfl | rfl | rfl | rfl | rfl | rfl | rfl <;>
      simp (disch := first | (simp only [List.length_append, List.length_cons, List.length_nil]; omega) | (simp; done) | assumption) [AV.cells?, AV.isCell, Tryz.f50, bq3, kidsI]
  · have hk' := hk
    rw [kinds_iff] at hk'
    have q : ∀ j : Int, 1 ≤ j → j ≤ 25 → (k == j) = false := fun j h1 h2 => by simp; omega
    rw [kidsI_out hk]
    simp (disch := first | (simp only [List.length_append, List.length_cons, List.length_nil]; omega) | (simp; done) | assumption) [AV.cells?, AV.isCell, Tryz.f50, bq3, q 1 (by omega) (by omega), q 2 (by omega) (by omega), q 3 (by omega) (by omega), q 4 (by omega) (by omega), q 5 (by omega) (by omega), q 6 (by omega) (by omega), q 7 (by omega) (by omega), q 8 (by omega) (by omega), q 9 (by omega) (by omega), q 10 (by omega) (by omega), q 11 (by omega) (by omega), q 12 (by omega) (by omega), q 13 (by omega) (by omega), q 14 (by omega) (by omega), q 15 (by omega) (by omega), q 16 (by omega) (by omega), q 17 (by omega) (by omega), q 18 (by omega) (by omega), q 19 (by omega) (by omega), q 20 (by omega) (by omega), q 21 (by omega) (by omega), q 22 (by omega) (by omega), q 23 (by omega) (by omega), q 24 (by omega) (by omega), q 25 (by omega) (by omega)]

def spanB (lo hi : Int) : Bool := decide (0 ≤ lo) && (decide (lo ≤ hi) || hi == -1)
theorem spanB_iff (lo hi : Int) : spanB lo hi = true ↔ 0 ≤ lo ∧ (hi = -1 ∨ lo ≤ hi) := by
  simp [spanB]; omega
theorem ev_span (n : Nat) (k : Int) (nm : List UInt8) (a lo hi : Int) (ks : AV) (hks : ks.isCell = true) (S : St) :
    ev Tryz.prog E (n + 1) 68 [.agg [.int .i64 k, .str nm, .int .i64 a, .int .i64 lo, .int .i64 hi, ks]] S = some (.ret (.bool (spanB lo hi)), S) := by
  rw [ev_enter (n := n) (show E.ok 68 = true from rfl) Tryz.func68 (fn := Tryz.f68) rfl (Nat.le_of_ble_eq_true rfl) (by decide +kernel)]
  cases h1 : decide (0 ≤ lo) <;> cases h2 : decide (lo ≤ hi) <;> cases h3 : (hi == -1) <;>
    simp (disch := first | (simp only [List.length_append, List.length_cons, List.length_nil]; omega) | (simp; done) | assumption) [AV.cells?, AV.isCell, Tryz.f68, E_esc, k24, c24, a24, k2, c2, a2, fq3, fq4, bq2, hks, -AV.isCell, h1, h2, h3, spanB]
end Go.Proofs.YtmhidempoabehaaGreatDoor.NF
/- What an expression has of its own (ast), evaluated. No condition. -/
namespace Go.Proofs.YtmhidempoabehaaGreatDoor.NF
set_option linter.unusedVariables false
set_option linter.unusedSimpArgs false
open Go AE EX PT
set_option maxRecDepth 100000

def OwnOut (n : Nat) (k : Int) (nm : List UInt8) (a lo hi : Int) (ks : AV) (S : St) : Prop :=
  ∃ b, ev Tryz.prog E (n + 4) 48 [.agg [.int .i64 k, .str nm, .int .i64 a, .int .i64 lo, .int .i64 hi, ks]] S = some (.ret (.bool b), S) ∧ (b = true ↔ Fits k nm a lo hi)

set_option maxHeartbeats 4000000 in
theorem own_plain (n : Nat) (k : Int) (nm : List UInt8) (hl : nm.length ≤ 1048576) (hn : nm.length < n) (a lo hi : Int) (ks : AV) (hks : ks.isCell = true) (S : St)
    (hk : (k = 4 ∨ k = 7 ∨ k = 8 ∨ k = 9 ∨ k = 10 ∨ k = 11 ∨ k = 12 ∨ k = 14 ∨ k = 15 ∨ k = 16 ∨ k = 17 ∨ k = 18 ∨ k = 19 ∨ k = 20 ∨ k = 25)) : OwnOut n k nm a lo hi ks S := by
  unfold OwnOut
  have hps : E.ps 48 1 = [(1, 4), (1, 7), (4, 7), (1, 10), (4, 10), (7, 10)] := rfl
  have q1 : (k == 1) = false := by simp; omega
  have q2 : (k == 2) = false := by simp; omega
  have q3 : (k == 3) = false := by simp; omega
  have q13 : (k == 13) = false := by simp; omega
  have q5 : (k == 5) = false := by simp; omega
  have q6 : (k == 6) = false := by simp; omega
  have q21 : (k == 21) = false := by simp; omega
  have q22 : (k == 22) = false := by simp; omega
  have q23 : (k == 23) = false := by simp; omega
  have q24 : (k == 24) = false := by simp; omega
  rw [ev_enter (n := n + 3) (show E.ok 48 = true from rfl) Tryz.func48 (fn := Tryz.f48) rfl (Nat.le_of_ble_eq_true rfl) (by decide +kernel)]
  cases h0 : (nm == [])
  · refine ⟨false, ?_, iff_of_false (by simp) fun f => by have := f.none (by omega); subst this; simp at h0⟩
    simp (disch := first | (simp only [List.length_append, List.length_cons, List.length_nil]; omega) | (simp; done) | assumption) [AV.cells?, AV.isCell, Tryz.f48, E_esc, k24, c24, a24, k3, c3, a3, k2, c2, a2, k9, c9, a9, fq0, fq1, fq2, fq3, fq4, bq3, bq2, bq9, hks, -AV.isCell, hps, q1, q2, q3, q13, q5, q6, q21, q22, q23, q24, h0]
  cases h1 : (a == 0)
  · refine ⟨false, ?_, iff_of_false (by simp) fun f => by have := f.num (by omega) (by omega); subst this; simp at h1⟩
    simp (disch := first | (simp only [List.length_append, List.length_cons, List.length_nil]; omega) | (simp; done) | assumption) [AV.cells?, AV.isCell, Tryz.f48, E_esc, k24, c24, a24, k3, c3, a3, k2, c2, a2, k9, c9, a9, fq0, fq1, fq2, fq3, fq4, bq3, bq2, bq9, hks, -AV.isCell, hps, q1, q2, q3, q13, q5, q6, q21, q22, q23, q24, h0, h1]
  cases h2 : (lo == 0)
  · refine ⟨false, ?_, iff_of_false (by simp) fun f => by have := (f.zero (by omega)).1; subst this; simp at h2⟩
    simp (disch := first | (simp only [List.length_append, List.length_cons, List.length_nil]; omega) | (simp; done) | assumption) [AV.cells?, AV.isCell, Tryz.f48, E_esc, k24, c24, a24, k3, c3, a3, k2, c2, a2, k9, c9, a9, fq0, fq1, fq2, fq3, fq4, bq3, bq2, bq9, hks, -AV.isCell, hps, q1, q2, q3, q13, q5, q6, q21, q22, q23, q24, h0, h1, h2]
  refine ⟨hi == 0, ?_, fun h => ?_, fun f => by have := (f.zero (by omega)).2; simp [this]⟩
  · simp (disch := first | (simp only [List.length_append, List.length_cons, List.length_nil]; omega) | (simp; done) | assumption) [AV.cells?, AV.isCell, Tryz.f48, E_esc, k24, c24, a24, k3, c3, a3, k2, c2, a2, k9, c9, a9, fq0, fq1, fq2, fq3, fq4, bq3, bq2, bq9, hks, -AV.isCell, hps, q1, q2, q3, q13, q5, q6, q21, q22, q23, q24, h0, h1, h2]
  · have e1 : nm = [] := by simpa using h0
    have e2 : a = 0 := by simpa using h1
    have e3 : lo = 0 := by simpa using h2
    have e4 : hi = 0 := by simpa using h
    exact ⟨by omega, by omega, fun _ => e1, by omega, by omega, fun _ _ => e2, by omega, by omega, fun _ => ⟨e3, e4⟩⟩

set_option maxHeartbeats 4000000 in
theorem own_text (n : Nat) (k : Int) (nm : List UInt8) (hl : nm.length ≤ 1048576) (hn : nm.length < n) (a lo hi : Int) (ks : AV) (hks : ks.isCell = true) (S : St)
    (hk : k = 3) : OwnOut n k nm a lo hi ks S := by
  unfold OwnOut
  have hps : E.ps 48 1 = [(1, 4), (1, 7), (4, 7), (1, 10), (4, 10), (7, 10)] := rfl
  have hp : ev Tryz.prog E (n + 3) 59 [.str nm] S = some (.ret (.bool (plainB nm)), S) := ev_lPlain (n + 1) nm S
  rw [ev_enter (n := n + 3) (show E.ok 48 = true from rfl) Tryz.func48 (fn := Tryz.f48) rfl (Nat.le_of_ble_eq_true rfl) (by decide +kernel)]
  cases h0 : plainB nm
  · refine ⟨false, ?_, iff_of_false (by simp) fun f => by have := f.text (by omega); rw [h0] at this; cases this⟩
    rw [h0] at hp; subst hk; simp (disch := first | (simp only [List.length_append, List.length_cons, List.length_nil]; omega) | (simp; done) | assumption) [AV.cells?, AV.isCell, Tryz.f48, E_esc, k24, c24, a24, k3, c3, a3, k2, c2, a2, k9, c9, a9, fq0, fq1, fq2, fq3, fq4, bq3, bq2, bq9, hks, -AV.isCell, hps, h0, hp]
  rw [h0] at hp
  cases h1 : (a == 0)
  · refine ⟨false, ?_, iff_of_false (by simp) fun f => by have := f.num (by omega) (by omega); subst this; simp at h1⟩
    subst hk; simp (disch := first | (simp only [List.length_append, List.length_cons, List.length_nil]; omega) | (simp; done) | assumption) [AV.cells?, AV.isCell, Tryz.f48, E_esc, k24, c24, a24, k3, c3, a3, k2, c2, a2, k9, c9, a9, fq0, fq1, fq2, fq3, fq4, bq3, bq2, bq9, hks, -AV.isCell, hps, h0, hp, h1]
  cases h2 : (lo == 0)
  · refine ⟨false, ?_, iff_of_false (by simp) fun f => by have := (f.zero (by omega)).1; subst this; simp at h2⟩
    subst hk; simp (disch := first | (simp only [List.length_append, List.length_cons, List.length_nil]; omega) | (simp; done) | assumption) [AV.cells?, AV.isCell, Tryz.f48, E_esc, k24, c24, a24, k3, c3, a3, k2, c2, a2, k9, c9, a9, fq0, fq1, fq2, fq3, fq4, bq3, bq2, bq9, hks, -AV.isCell, hps, h0, hp, h1, h2]
  refine ⟨hi == 0, ?_, fun h => ?_, fun f => by have := (f.zero (by omega)).2; simp [this]⟩
  · subst hk; simp (disch := first | (simp only [List.length_append, List.length_cons, List.length_nil]; omega) | (simp; done) | assumption) [AV.cells?, AV.isCell, Tryz.f48, E_esc, k24, c24, a24, k3, c3, a3, k2, c2, a2, k9, c9, a9, fq0, fq1, fq2, fq3, fq4, bq3, bq2, bq9, hks, -AV.isCell, hps, h0, hp, h1, h2]
  · have e2 : a = 0 := by simpa using h1
    have e3 : lo = 0 := by simpa using h2
    have e4 : hi = 0 := by simpa using h
    exact ⟨fun _ => h0, by omega, fun hh => absurd (.inl hk) hh, by omega, by omega, fun _ _ => e2, by omega, by omega, fun _ => ⟨e3, e4⟩⟩

set_option maxHeartbeats 4000000 in
theorem own_named (n : Nat) (k : Int) (nm : List UInt8) (hl : nm.length ≤ 1048576) (hn : nm.length < n) (a lo hi : Int) (ks : AV) (hks : ks.isCell = true) (S : St)
    (hk : k = 5 ∨ k = 6 ∨ k = 21) : OwnOut n k nm a lo hi ks S := by
  unfold OwnOut
  have hps : E.ps 48 1 = [(1, 4), (1, 7), (4, 7), (1, 10), (4, 10), (7, 10)] := rfl
  have hp : ev Tryz.prog E (n + 3) 67 [.str nm] S = some (.ret (.bool (nameB nm)), S) := ev_lName (n + 1) nm hl (by omega) S
  rw [ev_enter (n := n + 3) (show E.ok 48 = true from rfl) Tryz.func48 (fn := Tryz.f48) rfl (Nat.le_of_ble_eq_true rfl) (by decide +kernel)]
  cases h0 : nameB nm
  · refine ⟨false, ?_, iff_of_false (by simp) fun f => by have := f.name (by omega); rw [h0] at this; cases this⟩
    rw [h0] at hp; rcases hk with rfl | rfl | rfl <;> simp (disch := first | (simp only [List.length_append, List.length_cons, List.length_nil]; omega) | (simp; done) | assumption) [AV.cells?, AV.isCell, Tryz.f48, E_esc, k24, c24, a24, k3, c3, a3, k2, c2, a2, k9, c9, a9, fq0, fq1, fq2, fq3, fq4, bq3, bq2, bq9, hks, -AV.isCell, hps, h0, hp]
  rw [h0] at hp
  cases h1 : (a == 0)
  · refine ⟨false, ?_, iff_of_false (by simp) fun f => by have := f.num (by omega) (by omega); subst this; simp at h1⟩
    rcases hk with rfl | rfl | rfl <;> simp (disch := first | (simp only [List.length_append, List.length_cons, List.length_nil]; omega) | (simp; done) | assumption) [AV.cells?, AV.isCell, Tryz.f48, E_esc, k24, c24, a24, k3, c3, a3, k2, c2, a2, k9, c9, a9, fq0, fq1, fq2, fq3, fq4, bq3, bq2, bq9, hks, -AV.isCell, hps, h0, hp, h1]
  cases h2 : (lo == 0)
  · refine ⟨false, ?_, iff_of_false (by simp) fun f => by have := (f.zero (by omega)).1; subst this; simp at h2⟩
    rcases hk with rfl | rfl | rfl <;> simp (disch := first | (simp only [List.length_append, List.length_cons, List.length_nil]; omega) | (simp; done) | assumption) [AV.cells?, AV.isCell, Tryz.f48, E_esc, k24, c24, a24, k3, c3, a3, k2, c2, a2, k9, c9, a9, fq0, fq1, fq2, fq3, fq4, bq3, bq2, bq9, hks, -AV.isCell, hps, h0, hp, h1, h2]
  refine ⟨hi == 0, ?_, fun h => ?_, fun f => by have := (f.zero (by omega)).2; simp [this]⟩
  · rcases hk with rfl | rfl | rfl <;> simp (disch := first | (simp only [List.length_append, List.length_cons, List.length_nil]; omega) | (simp; done) | assumption) [AV.cells?, AV.isCell, Tryz.f48, E_esc, k24, c24, a24, k3, c3, a3, k2, c2, a2, k9, c9, a9, fq0, fq1, fq2, fq3, fq4, bq3, bq2, bq9, hks, -AV.isCell, hps, h0, hp, h1, h2]
  · have e2 : a = 0 := by simpa using h1
    have e3 : lo = 0 := by simpa using h2
    have e4 : hi = 0 := by simpa using h
    exact ⟨by omega, fun _ => h0, by omega, by omega, by omega, fun _ _ => e2, by omega, by omega, fun _ => ⟨e3, e4⟩⟩

set_option maxHeartbeats 4000000 in
theorem own_times (n : Nat) (k : Int) (nm : List UInt8) (hl : nm.length ≤ 1048576) (hn : nm.length < n) (a lo hi : Int) (ks : AV) (hks : ks.isCell = true) (S : St)
    (hk : k = 13) : OwnOut n k nm a lo hi ks S := by
  unfold OwnOut
  have hps : E.ps 48 1 = [(1, 4), (1, 7), (4, 7), (1, 10), (4, 10), (7, 10)] := rfl
  have hp : ev Tryz.prog E (n + 3) 67 [.str nm] S = some (.ret (.bool (nameB nm)), S) := ev_lName (n + 1) nm hl (by omega) S
  rw [ev_enter (n := n + 3) (show E.ok 48 = true from rfl) Tryz.func48 (fn := Tryz.f48) rfl (Nat.le_of_ble_eq_true rfl) (by decide +kernel)]
  cases h0 : nameB nm
  · refine ⟨false, ?_, iff_of_false (by simp) fun f => by have := f.name (by omega); rw [h0] at this; cases this⟩
    rw [h0] at hp; subst hk; simp (disch := first | (simp only [List.length_append, List.length_cons, List.length_nil]; omega) | (simp; done) | assumption) [AV.cells?, AV.isCell, Tryz.f48, E_esc, k24, c24, a24, k3, c3, a3, k2, c2, a2, k9, c9, a9, fq0, fq1, fq2, fq3, fq4, bq3, bq2, bq9, hks, -AV.isCell, hps, h0, hp]
  rw [h0] at hp
  cases h1 : (a == 0)
  · refine ⟨false, ?_, iff_of_false (by simp) fun f => by have := f.num (by omega) (by omega); subst this; simp at h1⟩
    subst hk; simp (disch := first | (simp only [List.length_append, List.length_cons, List.length_nil]; omega) | (simp; done) | assumption) [AV.cells?, AV.isCell, Tryz.f48, E_esc, k24, c24, a24, k3, c3, a3, k2, c2, a2, k9, c9, a9, fq0, fq1, fq2, fq3, fq4, bq3, bq2, bq9, hks, -AV.isCell, hps, h0, hp, h1]
  cases h2 : (lo == 0)
  · refine ⟨false, ?_, iff_of_false (by simp) fun f => by have := (f.times hk).1; subst this; simp at h2⟩
    subst hk; simp (disch := first | (simp only [List.length_append, List.length_cons, List.length_nil]; omega) | (simp; done) | assumption) [AV.cells?, AV.isCell, Tryz.f48, E_esc, k24, c24, a24, k3, c3, a3, k2, c2, a2, k9, c9, a9, fq0, fq1, fq2, fq3, fq4, bq3, bq2, bq9, hks, -AV.isCell, hps, h0, hp, h1, h2]
  refine ⟨decide (0 ≤ hi), ?_, fun h => ?_, fun f => by have := (f.times hk).2; simp [this]⟩
  · subst hk; simp (disch := first | (simp only [List.length_append, List.length_cons, List.length_nil]; omega) | (simp; done) | assumption) [AV.cells?, AV.isCell, Tryz.f48, E_esc, k24, c24, a24, k3, c3, a3, k2, c2, a2, k9, c9, a9, fq0, fq1, fq2, fq3, fq4, bq3, bq2, bq9, hks, -AV.isCell, hps, h0, hp, h1, h2]
  · have e2 : a = 0 := by simpa using h1
    have e3 : lo = 0 := by simpa using h2
    have e4 : 0 ≤ hi := by simpa using h
    exact ⟨by omega, fun _ => h0, by omega, by omega, by omega, fun _ _ => e2, by omega, fun _ => ⟨e3, e4⟩, by omega⟩

set_option maxHeartbeats 4000000 in
theorem own_int (n : Nat) (k : Int) (nm : List UInt8) (hl : nm.length ≤ 1048576) (hn : nm.length < n) (a lo hi : Int) (ks : AV) (hks : ks.isCell = true) (S : St)
    (hk : k = 1) : OwnOut n k nm a lo hi ks S := by
  unfold OwnOut
  have hps : E.ps 48 1 = [(1, 4), (1, 7), (4, 7), (1, 10), (4, 10), (7, 10)] := rfl
  rw [ev_enter (n := n + 3) (show E.ok 48 = true from rfl) Tryz.func48 (fn := Tryz.f48) rfl (Nat.le_of_ble_eq_true rfl) (by decide +kernel)]
  cases h0 : (nm == [])
  · refine ⟨false, ?_, iff_of_false (by simp) fun f => by have := f.none (by omega); subst this; simp at h0⟩
    subst hk; simp (disch := first | (simp only [List.length_append, List.length_cons, List.length_nil]; omega) | (simp; done) | assumption) [AV.cells?, AV.isCell, Tryz.f48, E_esc, k24, c24, a24, k3, c3, a3, k2, c2, a2, k9, c9, a9, fq0, fq1, fq2, fq3, fq4, bq3, bq2, bq9, hks, -AV.isCell, hps, h0]
  cases h1 : decide (0 ≤ a)
  · refine ⟨false, ?_, iff_of_false (by simp) fun f => by have := f.int (by omega); simp at h1; omega⟩
    subst hk; simp (disch := first | (simp only [List.length_append, List.length_cons, List.length_nil]; omega) | (simp; done) | assumption) [AV.cells?, AV.isCell, Tryz.f48, E_esc, k24, c24, a24, k3, c3, a3, k2, c2, a2, k9, c9, a9, fq0, fq1, fq2, fq3, fq4, bq3, bq2, bq9, hks, -AV.isCell, hps, h0, h1]
  cases h2 : (lo == 0)
  · refine ⟨false, ?_, iff_of_false (by simp) fun f => by have := (f.zero (by omega)).1; subst this; simp at h2⟩
    subst hk; simp (disch := first | (simp only [List.length_append, List.length_cons, List.length_nil]; omega) | (simp; done) | assumption) [AV.cells?, AV.isCell, Tryz.f48, E_esc, k24, c24, a24, k3, c3, a3, k2, c2, a2, k9, c9, a9, fq0, fq1, fq2, fq3, fq4, bq3, bq2, bq9, hks, -AV.isCell, hps, h0, h1, h2]
  refine ⟨hi == 0, ?_, fun h => ?_, fun f => by have := (f.zero (by omega)).2; simp [this]⟩
  · subst hk; simp (disch := first | (simp only [List.length_append, List.length_cons, List.length_nil]; omega) | (simp; done) | assumption) [AV.cells?, AV.isCell, Tryz.f48, E_esc, k24, c24, a24, k3, c3, a3, k2, c2, a2, k9, c9, a9, fq0, fq1, fq2, fq3, fq4, bq3, bq2, bq9, hks, -AV.isCell, hps, h0, h1, h2]
  · have e1 : nm = [] := by simpa using h0
    have e2 : 0 ≤ a := by simpa using h1
    have e3 : lo = 0 := by simpa using h2
    have e4 : hi = 0 := by simpa using h
    exact ⟨by omega, by omega, fun _ => e1, fun _ => e2, by omega, by omega, by omega, by omega, fun _ => ⟨e3, e4⟩⟩

set_option maxHeartbeats 4000000 in
theorem own_span (n : Nat) (k : Int) (nm : List UInt8) (hl : nm.length ≤ 1048576) (hn : nm.length < n) (a lo hi : Int) (ks : AV) (hks : ks.isCell = true) (S : St)
    (hk : k = 22 ∨ k = 23 ∨ k = 24) : OwnOut n k nm a lo hi ks S := by
  unfold OwnOut
  have hps : E.ps 48 1 = [(1, 4), (1, 7), (4, 7), (1, 10), (4, 10), (7, 10)] := rfl
  have hp : ev Tryz.prog E (n + 3) 68 [.agg [.int .i64 k, .str nm, .int .i64 a, .int .i64 lo, .int .i64 hi, ks]] S = some (.ret (.bool (spanB lo hi)), S) := ev_span (n + 2) k nm a lo hi ks hks S
  rw [ev_enter (n := n + 3) (show E.ok 48 = true from rfl) Tryz.func48 (fn := Tryz.f48) rfl (Nat.le_of_ble_eq_true rfl) (by decide +kernel)]
  cases h0 : (nm == [])
  · refine ⟨false, ?_, iff_of_false (by simp) fun f => by have := f.none (by omega); subst this; simp at h0⟩
    rcases hk with rfl | rfl | rfl <;> simp (disch := first | (simp only [List.length_append, List.length_cons, List.length_nil]; omega) | (simp; done) | assumption) [AV.cells?, AV.isCell, Tryz.f48, E_esc, k24, c24, a24, k3, c3, a3, k2, c2, a2, k9, c9, a9, fq0, fq1, fq2, fq3, fq4, bq3, bq2, bq9, hks, -AV.isCell, hps, hp, h0]
  cases h1 : (a == 0)
  · refine ⟨false, ?_, iff_of_false (by simp) fun f => by have := f.num (by omega) (by omega); subst this; simp at h1⟩
    rcases hk with rfl | rfl | rfl <;> simp (disch := first | (simp only [List.length_append, List.length_cons, List.length_nil]; omega) | (simp; done) | assumption) [AV.cells?, AV.isCell, Tryz.f48, E_esc, k24, c24, a24, k3, c3, a3, k2, c2, a2, k9, c9, a9, fq0, fq1, fq2, fq3, fq4, bq3, bq2, bq9, hks, -AV.isCell, hps, hp, h0, h1]
  refine ⟨spanB lo hi, ?_, fun h => ?_, fun f => by exact (spanB_iff lo hi).2 (f.span hk)⟩
  · cases h2 : spanB lo hi <;> rw [h2] at hp <;> rcases hk with rfl | rfl | rfl <;> simp (disch := first | (simp only [List.length_append, List.length_cons, List.length_nil]; omega) | (simp; done) | assumption) [AV.cells?, AV.isCell, Tryz.f48, E_esc, k24, c24, a24, k3, c3, a3, k2, c2, a2, k9, c9, a9, fq0, fq1, fq2, fq3, fq4, bq3, bq2, bq9, hks, -AV.isCell, hps, hp, h0, h1]
  · have e1 : nm = [] := by simpa using h0
    have e2 : a = 0 := by simpa using h1
    exact ⟨by omega, by omega, fun _ => e1, by omega, by omega, fun _ _ => e2, fun _ => (spanB_iff lo hi).1 h, by omega, by omega⟩

set_option maxHeartbeats 4000000 in
theorem own_bool (n : Nat) (k : Int) (nm : List UInt8) (hl : nm.length ≤ 1048576) (hn : nm.length < n) (a lo hi : Int) (ks : AV) (hks : ks.isCell = true) (S : St)
    (hk : k = 2) : OwnOut n k nm a lo hi ks S := by
  unfold OwnOut
  have hps : E.ps 48 1 = [(1, 4), (1, 7), (4, 7), (1, 10), (4, 10), (7, 10)] := rfl
  subst hk
  rw [ev_enter (n := n + 3) (show E.ok 48 = true from rfl) Tryz.func48 (fn := Tryz.f48) rfl (Nat.le_of_ble_eq_true rfl) (by decide +kernel)]
  by_cases hA : a = 0 ∨ a = 1
  · cases h0 : (nm == [])
    · refine ⟨false, ?_, iff_of_false (by simp) fun f => by have := f.none (by omega); subst this; simp at h0⟩
      rcases hA with rfl | rfl <;> simp (disch := first | (simp only [List.length_append, List.length_cons, List.length_nil]; omega) | (simp; done) | assumption) [AV.cells?, AV.isCell, Tryz.f48, E_esc, k24, c24, a24, k3, c3, a3, k2, c2, a2, k9, c9, a9, fq0, fq1, fq2, fq3, fq4, bq3, bq2, bq9, hks, -AV.isCell, hps, h0]
    cases h2 : (lo == 0)
    · refine ⟨false, ?_, iff_of_false (by simp) fun f => by have := (f.zero (by omega)).1; subst this; simp at h2⟩
      rcases hA with rfl | rfl <;> simp (disch := first | (simp only [List.length_append, List.length_cons, List.length_nil]; omega) | (simp; done) | assumption) [AV.cells?, AV.isCell, Tryz.f48, E_esc, k24, c24, a24, k3, c3, a3, k2, c2, a2, k9, c9, a9, fq0, fq1, fq2, fq3, fq4, bq3, bq2, bq9, hks, -AV.isCell, hps, h0, h2]
    refine ⟨hi == 0, ?_, fun h => ?_, fun f => by have := (f.zero (by omega)).2; simp [this]⟩
    · rcases hA with rfl | rfl <;> simp (disch := first | (simp only [List.length_append, List.length_cons, List.length_nil]; omega) | (simp; done) | assumption) [AV.cells?, AV.isCell, Tryz.f48, E_esc, k24, c24, a24, k3, c3, a3, k2, c2, a2, k9, c9, a9, fq0, fq1, fq2, fq3, fq4, bq3, bq2, bq9, hks, -AV.isCell, hps, h0, h2]
    · have e1 : nm = [] := by simpa using h0
      have e3 : lo = 0 := by simpa using h2
      have e4 : hi = 0 := by simpa using h
      exact ⟨by omega, by omega, fun _ => e1, by omega, fun _ => hA, by omega, by omega, by omega, fun _ => ⟨e3, e4⟩⟩
  · refine ⟨false, ?_, iff_of_false (by simp) fun f => by have := f.bool (by omega); omega⟩
    have g0 : (a == 0) = false := by simp; omega
    have g1 : (a == 1) = false := by simp; omega
    cases h0 : (nm == []) <;> simp (disch := first | (simp only [List.length_append, List.length_cons, List.length_nil]; omega) | (simp; done) | assumption) [AV.cells?, AV.isCell, Tryz.f48, E_esc, k24, c24, a24, k3, c3, a3, k2, c2, a2, k9, c9, a9, fq0, fq1, fq2, fq3, fq4, bq3, bq2, bq9, hks, -AV.isCell, hps, h0, g0, g1]

theorem ev_own (n : Nat) (k : Int) (nm : List UInt8) (hl : nm.length ≤ 1048576) (hn : nm.length + 5 ≤ n) (a lo hi : Int) (ks : AV) (hks : ks.isCell = true) (hk : kinds k) (S : St) :
    ∃ b, ev Tryz.prog E n 48 [.agg [.int .i64 k, .str nm, .int .i64 a, .int .i64 lo, .int .i64 hi, ks]] S = some (.ret (.bool b), S) ∧ (b = true ↔ Fits k nm a lo hi) := by
  obtain ⟨n, rfl⟩ : ∃ m, n = m + 4 := ⟨n - 4, by omega⟩
  have hk' := (kinds_iff k).1 hk
  by_cases c1 : k = 1
  · exact own_int n k nm hl (by omega) a lo hi ks hks S c1
  by_cases c2 : k = 2
  · exact own_bool n k nm hl (by omega) a lo hi ks hks S c2
  by_cases c3 : k = 3
  · exact own_text n k nm hl (by omega) a lo hi ks hks S c3
  by_cases c4 : k = 5 ∨ k = 6 ∨ k = 21
  · exact own_named n k nm hl (by omega) a lo hi ks hks S c4
  by_cases c5 : k = 13
  · exact own_times n k nm hl (by omega) a lo hi ks hks S c5
  by_cases c6 : k = 22 ∨ k = 23 ∨ k = 24
  · exact own_span n k nm hl (by omega) a lo hi ks hks S c6
  exact own_plain n k nm hl (by omega) a lo hi ks hks S (by omega)
end Go.Proofs.YtmhidempoabehaaGreatDoor.NF
/- slices.ContainsFunc; sets of texts (ast), evaluated. No condition. -/
namespace Go.Proofs.YtmhidempoabehaaGreatDoor.NF
set_option linter.unusedVariables false
set_option linter.unusedSimpArgs false
open Go AE EX PT
set_option maxRecDepth 100000

/-! ### slices.IndexFunc -/
noncomputable def ifLoop : Code := cutC (bodyOf Tryz.f69) [1, 0, 1, 0, 0]
noncomputable def if0 : Code := cutC (bodyOf Tryz.f69) [0]
noncomputable def if1 : Code := cutC (bodyOf Tryz.f69) [1, 0, 0]
noncomputable def if2 : Code := cutC (bodyOf Tryz.f69) [1, 1]
theorem f81b : Tryz.f69.body = some (.seq if0 (.seq (.seq if1 (.block 0 (.loop ifLoop))) if2)) := rfl

def IFI (kids : List X) (tok : Tok) (f : Nat) (p : X → Prop) (S0 : St) (m : Nat) (fs : FS) : Prop :=
  ∃ i, i + m = kids.length ∧ fs.t 0 = .slice (embL kids) tok ∧ fs.t 1 = .fn f [] [] ∧ fs.t 7 = .int .i64 kids.length ∧ fs.t 8 = .int .i64 i ∧ fs.S = S0 ∧ ∀ j x, j < i → kids[j]? = some x → ¬ p x
def IFQ (kids : List X) (p : X → Prop) (S0 : St) (r : Out × FS) : Prop :=
  r.2.S = S0 ∧ ((r.1 = .exit 0 ∧ ∀ x ∈ kids, ¬ p x) ∨ (r.1 = .ret ∧ (∃ i : Nat, r.2.t 4 = .int .i64 i) ∧ ∃ x ∈ kids, p x))

theorem if_round (n : Nat) (kids : List X) (tok : Tok) (f : Nat) (p : X → Prop) (S0 : St) (hs : kids.length ≤ 1048576)
    (hrec : ∀ x ∈ kids, ∀ S, ∃ b, ev Tryz.prog E n f [x.emb] S = some (.ret (.bool b), S) ∧ (b = true ↔ p x)) (m : Nat) (fs : FS) (h : IFI kids tok f p S0 m fs) :
    ∃ o fs', evCode ⟨Tryz.prog, E.esc 69, n⟩ (ev Tryz.prog E n) (E.ps 69) n ifLoop fs = some (o, fs') ∧ ((o = .norm ∧ ∃ m', m' < m ∧ IFI kids tok f p S0 m' fs') ∨ (o ≠ .norm ∧ IFQ kids p S0 (o, fs'))) := by
  obtain ⟨t, b, v, S⟩ := fs
  obtain ⟨i, hi, h0, h1, h2, h3, h4, h5⟩ := h
  simp only at h0 h1 h2 h3 h4
  subst h4
  have hlen := embL_length kids
  cases m with
  | zero =>
    have hi : i = kids.length := by omega
    subst hi
    refine ⟨.exit 0, _, by
      simp (disch := first | (simp only [List.length_append, List.length_cons, List.length_nil]; omega) | (simp; done) | assumption) [AV.cells?, AV.isCell, ifLoop, cutC, bodyOf, Tryz.f69, h0, h1, h2, h3, bq3]
      rfl, .inr ⟨by simp, rfl, .inl ⟨rfl, fun x hx => by
        obtain ⟨j, hj, rfl⟩ := List.getElem_of_mem hx
        exact h5 j _ hj (List.getElem?_eq_getElem hj)⟩⟩⟩
  | succ m =>
    have hlt : i < kids.length := by omega
    have hltz : (i : Int) < kids.length := by omega
    have hxe : kids[i]? = some kids[i] := List.getElem?_eq_getElem hlt
    have hxm : kids[i] ∈ kids := List.getElem_mem hlt
    obtain ⟨b', hr, hb⟩ := hrec kids[i] hxm S
    have hemb : (embL kids)[i]? = some kids[i].emb := by rw [embL_map, List.getElem?_map, hxe]; rfl
    have ha1 := cells_all kids[i]
    have hc1 := (cells_ok kids[i]).2
    have ht1 : List.take 6 kids[i].cells = kids[i].cells := List.take_of_length_le (by omega)
    have hw : IntKind.i64.wrap ((i : Int) + 1) = (i : Int) + 1 := wrap64 _ (by omega)
    rw [emb_cells] at hemb hr
    generalize kids[i] = x at *
    generalize x.cells = C1 at *
    obtain ⟨z, hz⟩ := ii24
    cases b'
    · refine ⟨.norm, _, by
        simp (disch := first | (simp only [List.length_append, List.length_cons, List.length_nil]; omega) | (simp; done) | assumption) [AV.cells?, AV.isCell, ifLoop, cutC, bodyOf, Tryz.f69, h0, h1, h2, h3, bq3, k24, c24, a24, i24, hz, sq22, hlen, hlt, hltz, hemb, hr, ha1, hc1, ht1]
        rfl, .inl ⟨rfl, m, by omega, i + 1, by omega, by simp [upd, h0], by simp [upd, h1], by simp [upd, h2], by simp [upd, hw], rfl, fun j y hj hy => by
          by_cases hji : j = i
          · subst hji; rw [hxe] at hy; cases hy; exact fun hp => by have := hb.2 hp; cases this
          · exact h5 j y (by omega) hy⟩⟩
    · refine ⟨.ret, _, by
        simp (disch := first | (simp only [List.length_append, List.length_cons, List.length_nil]; omega) | (simp; done) | assumption) [AV.cells?, AV.isCell, ifLoop, cutC, bodyOf, Tryz.f69, h0, h1, h2, h3, bq3, k24, c24, a24, i24, hz, sq22, hlen, hlt, hltz, hemb, hr, ha1, hc1, ht1]
        rfl, .inr ⟨by simp, rfl, .inr ⟨rfl, ⟨i, by simp [upd]⟩, x, hxm, hb.1 rfl⟩⟩⟩

theorem ev_IndexFunc (n : Nat) (kids : List X) (tok : Tok) (f : Nat) (p : X → Prop) (S : St) (hs : kids.length ≤ 1048576) (hn : kids.length < n)
    (hrec : ∀ x ∈ kids, ∀ S, ∃ b, ev Tryz.prog E n f [x.emb] S = some (.ret (.bool b), S) ∧ (b = true ↔ p x)) :
    ∃ r : Int, ev Tryz.prog E (n + 1) 69 [.slice (embL kids) tok, .fn f [] []] S = some (.ret (.int .i64 r), S) ∧ (0 ≤ r ↔ ∃ x ∈ kids, p x) := by
  have hlen := embL_length kids
  rw [ev_enter (n := n) (show E.ok 69 = true from rfl) Tryz.func69 f81b (Nat.le_of_ble_eq_true rfl) (by decide +kernel)]
  obtain ⟨⟨o, t, b, v, S'⟩, hr, hS, hq⟩ := iter_meas (fun m fs h => if_round n kids tok f p S hs hrec m fs h) kids.length n
    ⟨upd 8 (.int .i64 0) (upd 7 (.int .i64 kids.length) (upd 6 (.slice (embL kids) tok) (upd 4 (.int .i64 0) (argsA [.slice (embL kids) tok, .fn f [] []])))), fun _ => (0, []), 4, S⟩ hn
    ⟨0, by omega, by simp [upd, argsA], by simp [upd, argsA], by simp [upd], by simp [upd], rfl, fun j x hj => by omega⟩
  simp only at hS hq
  subst hS
  rcases hq with ⟨rfl, ha⟩ | ⟨rfl, ⟨i, h2⟩, hex⟩
  · refine ⟨-1, ?_, by simp; exact ha⟩
    simp (disch := first | (simp only [List.length_append, List.length_cons, List.length_nil]; omega) | (simp; done) | assumption) [AV.cells?, AV.isCell, if0, if1, if2, cutC, bodyOf, Tryz.f69, sq22, hlen, hr]
  · refine ⟨i, ?_, iff_of_true (by omega) hex⟩
    simp (disch := first | (simp only [List.length_append, List.length_cons, List.length_nil]; omega) | (simp; done) | assumption) [AV.cells?, AV.isCell, if0, if1, if2, cutC, bodyOf, Tryz.f69, sq22, hlen, hr, h2]

theorem ev_Contains (n : Nat) (kids : List X) (tok : Tok) (f : Nat) (p : X → Prop) (S : St) (hs : kids.length ≤ 1048576) (hn : kids.length < n)
    (hrec : ∀ x ∈ kids, ∀ S, ∃ b, ev Tryz.prog E n f [x.emb] S = some (.ret (.bool b), S) ∧ (b = true ↔ p x)) :
    ∃ b, ev Tryz.prog E (n + 2) 51 [.slice (embL kids) tok, .fn f [] []] S = some (.ret (.bool b), S) ∧ (b = true ↔ ∃ x ∈ kids, p x) := by
  obtain ⟨r, hr, hb⟩ := ev_IndexFunc n kids tok f p S hs hn hrec
  rw [show n + 2 = (n + 1) + 1 from rfl, ev_enter (n := n + 1) (show E.ok 51 = true from rfl) Tryz.func51 (fn := Tryz.f51) rfl (Nat.le_of_ble_eq_true rfl) (by decide +kernel)]
  refine ⟨decide (0 ≤ r), ?_, by simpa using hb⟩
  simp (disch := first | (simp only [List.length_append, List.length_cons, List.length_nil]; omega) | (simp; done) | assumption) [AV.cells?, AV.isCell, Tryz.f51, bq3, hr]

/-! ### a set's texts -/
/-- it may be, and all below it -/
def MayAll (x : X) : Prop := ∀ y ∈ x.nodes, PT.Good y
theorem may_text (nm : List UInt8) (a lo hi : Int) (tk : Bool) (ks : List X) : MayAll (.mk 3 nm a lo hi tk ks) ↔ ks = [] ∧ a = 0 ∧ lo = 0 ∧ hi = 0 ∧ plainB nm = true := by
  constructor
  · intro h
    obtain ⟨_, g2, _, g4⟩ := h _ (List.mem_cons_self ..)
    have g2 := g2 (by decide)
    rw [show kidsI 3 = 0 from by decide] at g2
    exact ⟨List.eq_nil_of_length_eq_zero (by omega), g4.num (by decide) (by decide), (g4.zero (by decide)).1, (g4.zero (by decide)).2, g4.text rfl⟩
  · rintro ⟨rfl, rfl, rfl, rfl, hp⟩ y hy
    simp [X.nodes, nodesL] at hy
    subst hy
    exact ⟨by simp [kinds], fun _ => by decide, fun h => by simp at h, fun _ => hp, by omega, by omega, by omega, by omega, by omega, by omega, by omega, by omega⟩

noncomputable def txLoop : Code := cutC (bodyOf Tryz.f49) [1, 0, 1, 0, 0]
noncomputable def tx0 : Code := cutC (bodyOf Tryz.f49) [0]
noncomputable def tx1 : Code := cutC (bodyOf Tryz.f49) [1, 0, 0]
noncomputable def tx2 : Code := cutC (bodyOf Tryz.f49) [1, 1]
theorem f71b : Tryz.f49.body = some (.seq tx0 (.seq (.seq tx1 (.block 0 (.loop txLoop))) tx2)) := rfl

def TXI (kids : List X) (tok : Tok) (S0 : St) (m : Nat) (fs : FS) : Prop :=
  ∃ i, i + m = kids.length ∧ fs.t 0 = .slice (embL kids) tok ∧ fs.t 5 = .slice (embL kids) tok ∧ fs.t 6 = .int .i64 kids.length ∧ fs.t 7 = .int .i64 i ∧ fs.S = S0 ∧ ∀ j, j < i → kidOK kids j
def TXQ (kids : List X) (tok : Tok) (S0 : St) (r : Out × FS) : Prop :=
  r.2.S = S0 ∧ ((r.1 = .exit 0 ∧ r.2.t 0 = .slice (embL kids) tok ∧ ∀ j, j < kids.length → kidOK kids j) ∨ (r.1 = .ret ∧ r.2.t 2 = .bool false ∧ ∃ j, j < kids.length ∧ ¬ kidOK kids j))

set_option maxHeartbeats 4000000 in
theorem tx_round (n : Nat) (kids : List X) (tok : Tok) (S0 : St) (hs : kids.length ≤ 1048576)
    (hrec : ∀ x ∈ kids, ∀ S, ∃ b, ev Tryz.prog E n 30 [x.emb] S = some (.ret (.bool b), S) ∧ (b = true ↔ MayAll x)) (m : Nat) (fs : FS) (h : TXI kids tok S0 m fs) :
    ∃ o fs', evCode ⟨Tryz.prog, E.esc 49, n⟩ (ev Tryz.prog E n) (E.ps 49) n txLoop fs = some (o, fs') ∧ ((o = .norm ∧ ∃ m', m' < m ∧ TXI kids tok S0 m' fs') ∨ (o ≠ .norm ∧ TXQ kids tok S0 (o, fs'))) := by
  obtain ⟨t, b, v, S⟩ := fs
  obtain ⟨i, hi, h0, h1, h2, h3, h4, h5⟩ := h
  simp only at h0 h1 h2 h3 h4
  subst h4
  have hlen := embL_length kids
  cases m with
  | zero =>
    have hi : i = kids.length := by omega
    subst hi
    refine ⟨.exit 0, _, by
      simp (disch := first | (simp only [List.length_append, List.length_cons, List.length_nil]; omega) | (simp; done) | assumption) [AV.cells?, AV.isCell, txLoop, cutC, bodyOf, Tryz.f49, h0, h1, h2, h3, bq3]
      rfl, .inr ⟨by simp, rfl, .inl ⟨rfl, by simp [upd, h0], h5⟩⟩⟩
  | succ m =>
    have hlt : i < kids.length := by omega
    have hltz : (i : Int) < kids.length := by omega
    have hxe : kids[i]? = some kids[i] := List.getElem?_eq_getElem hlt
    have hxm : kids[i] ∈ kids := List.getElem_mem hlt
    obtain ⟨b', hr, hb⟩ := hrec kids[i] hxm S
    have hemb : (embL kids)[i]? = some kids[i].emb := by rw [embL_map, List.getElem?_map, hxe]; rfl
    have hw : IntKind.i64.wrap ((i : Int) + 1) = (i : Int) + 1 := wrap64 _ (by omega)
    have hps : E.ps 49 4 = [(13, 19)] := rfl
    obtain ⟨z, hz⟩ := ii24
    generalize kids[i] = x at *
    obtain ⟨k, nm, a, lo, hi', tk', ks⟩ := x
    simp only [X.emb] at hemb hr
    generalize hK : AV.slice (embL ks) (tokOf tk') = kk at *
    have hkc : kk.isCell = true := by rw [← hK]; rfl
    cases g0 : (k == 3)
    · refine ⟨.ret, _, by
        simp (disch := first | (simp only [List.length_append, List.length_cons, List.length_nil]; omega) | (simp; done) | assumption) [AV.cells?, AV.isCell, -AV.isCell, hkc, txLoop, cutC, bodyOf, Tryz.f49, E_esc, h0, h1, h2, h3, fq0, fq1, k24, c24, a24, k3, c3, a3, k9, c9, a9, z24, i24, hz, sq22, bq3, hlen, hlt, hltz, hemb, bne, hps, g0]
        rfl, .inr ⟨by simp, rfl, .inr ⟨rfl, by simp [upd], i, hlt, fun ⟨_, _, he, _, _⟩ => by rw [hxe] at he; cases he; simp at g0⟩⟩⟩
    have e0 : k = 3 := by simpa using g0
    subst e0
    cases b'
    · refine ⟨.ret, _, by
        simp (disch := first | (simp only [List.length_append, List.length_cons, List.length_nil]; omega) | (simp; done) | assumption) [AV.cells?, AV.isCell, -AV.isCell, hkc, txLoop, cutC, bodyOf, Tryz.f49, E_esc, h0, h1, h2, h3, fq0, fq1, k24, c24, a24, k3, c3, a3, k9, c9, a9, z24, i24, hz, sq22, bq3, hlen, hlt, hltz, hemb, bne, hps, hr]
        rfl, .inr ⟨by simp, rfl, .inr ⟨rfl, by simp [upd], i, hlt, fun ⟨_, _, he, hp', _⟩ => by
          rw [hxe] at he; cases he
          have := hb.2 ((may_text _ _ _ _ _ _).2 ⟨rfl, rfl, rfl, rfl, hp'⟩)
          cases this⟩⟩⟩
    obtain ⟨e1, e2, e3, e4, hp⟩ := (may_text _ _ _ _ _ _).1 (hb.1 rfl)
    subst e1 e2 e3 e4
    have good : (0 < i → ∀ y, kids[i - 1]? = some y → (Op.bytesLess nm y.nm || nm == y.nm) = false) → ∀ j, j < i + 1 → kidOK kids j := fun hr j hj => by
      by_cases hji : j = i
      · subst hji; exact ⟨nm, tk', hxe, hp, hr⟩
      · exact h5 j (by omega)
    by_cases hi0 : i = 0
    · subst hi0
      refine ⟨.norm, _, by
        simp (disch := first | (simp only [List.length_append, List.length_cons, List.length_nil]; omega) | (simp; done) | assumption) [AV.cells?, AV.isCell, -AV.isCell, hkc, txLoop, cutC, bodyOf, Tryz.f49, E_esc, h0, h1, h2, h3, fq0, fq1, k24, c24, a24, k3, c3, a3, k9, c9, a9, z24, i24, hz, sq22, bq3, bq9, hlen, hlt, hltz, hemb, bne, hps, hr]
        rfl, .inl ⟨rfl, m, by omega, 1, by omega, by simp [upd, h0], by simp [upd, h1], by simp [upd, h2], by simp [upd, wrap64 1 (by omega)], rfl, good (fun h => absurd h (Nat.lt_irrefl 0))⟩⟩
    · have hpos : (0 : Int) < i := by omega
      have hpos' : 0 < i := by omega
      have hw2 : IntKind.i64.wrap ((i : Int) - 1) = ((i - 1 : Nat) : Int) := by rw [wrap64 _ (by omega)]; omega
      have hye : kids[i - 1]? = some kids[i - 1] := List.getElem?_eq_getElem (by omega)
      have hemb2 : (embL kids)[i - 1]? = some kids[i - 1].emb := by rw [embL_map, List.getElem?_map, hye]; rfl
      generalize kids[i - 1] = y at *
      obtain ⟨kk2, nm2, aa, lo2, hi2, tk2, ks2⟩ := y
      simp only [X.emb] at hemb2
      generalize hK2 : AV.slice (embL ks2) (tokOf tk2) = kc at *
      have hkc2 : kc.isCell = true := by rw [← hK2]; rfl
      cases g6 : (Op.bytesLess nm nm2 || nm == nm2)
      · refine ⟨.norm, _, by
          simp (disch := first | (simp only [List.length_append, List.length_cons, List.length_nil]; omega) | (simp; done) | assumption) [AV.cells?, AV.isCell, -AV.isCell, hkc, hkc2, txLoop, cutC, bodyOf, Tryz.f49, E_esc, h0, h1, h2, h3, fq0, fq1, k24, c24, a24, k3, c3, a3, k9, c9, a9, z24, i24, hz, sq22, bq3, bq9, hlen, hlt, hltz, hemb, hemb2, bne, hps, hr, hpos, hpos', hw2, g6, -Bool.or_eq_true, -Bool.or_eq_false_iff]
          rfl, .inl ⟨rfl, m, by omega, i + 1, by omega, by simp [upd, h0], by simp [upd, h1], by simp [upd, h2], by simp [upd, hw], rfl, good fun _ y hy => by rw [hye] at hy; cases hy; exact g6⟩⟩
      · refine ⟨.ret, _, by
          simp (disch := first | (simp only [List.length_append, List.length_cons, List.length_nil]; omega) | (simp; done) | assumption) [AV.cells?, AV.isCell, -AV.isCell, hkc, hkc2, txLoop, cutC, bodyOf, Tryz.f49, E_esc, h0, h1, h2, h3, fq0, fq1, k24, c24, a24, k3, c3, a3, k9, c9, a9, z24, i24, hz, sq22, bq3, bq9, hlen, hlt, hltz, hemb, hemb2, bne, hps, hr, hpos, hpos', hw2, g6, -Bool.or_eq_true, -Bool.or_eq_false_iff]
          rfl, .inr ⟨by simp, rfl, .inr ⟨rfl, by simp [upd], i, hlt, fun ⟨_, _, he, _, hr⟩ => by rw [hxe] at he; cases he; have := hr hpos' _ hye; simp only [X.nm] at this; rw [g6] at this; cases this⟩⟩⟩

theorem ev_texts (n : Nat) (kids : List X) (tok : Tok) (S : St) (hs : kids.length ≤ 1048576) (hn : kids.length < n)
    (hrec : ∀ x ∈ kids, ∀ S, ∃ b, ev Tryz.prog E n 30 [x.emb] S = some (.ret (.bool b), S) ∧ (b = true ↔ MayAll x)) :
    ∃ b, ev Tryz.prog E (n + 1) 49 [.slice (embL kids) tok] S = some (.ret (.bool b), S) ∧ (b = true ↔ SetOK kids) := by
  have hlen := embL_length kids
  rw [ev_enter (n := n) (show E.ok 49 = true from rfl) Tryz.func49 f71b (Nat.le_of_ble_eq_true rfl) (by decide +kernel)]
  obtain ⟨⟨o, t, b, v, S'⟩, hr, hS, hq⟩ := iter_meas (fun m fs h => tx_round n kids tok S hs hrec m fs h) kids.length n
    ⟨upd 7 (.int .i64 0) (upd 6 (.int .i64 kids.length) (upd 5 (.slice (embL kids) tok) (upd 2 (.bool false) (argsA [.slice (embL kids) tok])))), fun _ => (0, []), 4, S⟩ hn
    ⟨0, by omega, by simp [upd, argsA], by simp [upd], by simp [upd], by simp [upd], rfl, fun j hj => by omega⟩
  simp only at hS hq
  subst hS
  rcases hq with ⟨rfl, g0, ha⟩ | ⟨rfl, h2, j, hj, hno⟩
  · by_cases h8 : kids.length ≤ 8
    · have h8z : (kids.length : Int) ≤ 8 := by omega
      refine ⟨true, ?_, iff_of_true rfl ⟨h8, ha⟩⟩
      simp (disch := first | (simp only [List.length_append, List.length_cons, List.length_nil]; omega) | (simp; done) | assumption) [AV.cells?, AV.isCell, tx0, tx1, tx2, cutC, bodyOf, Tryz.f49, sq22, bq3, hlen, hr, g0, h8, h8z]
    · have h8z : ¬ (kids.length : Int) ≤ 8 := by omega
      refine ⟨false, ?_, iff_of_false (by simp) fun g => h8 g.1⟩
      simp (disch := first | (simp only [List.length_append, List.length_cons, List.length_nil]; omega) | (simp; done) | assumption) [AV.cells?, AV.isCell, tx0, tx1, tx2, cutC, bodyOf, Tryz.f49, sq22, bq3, hlen, hr, g0, h8, h8z]
  · refine ⟨false, ?_, iff_of_false (by simp) fun g => hno (g.2 j hj)⟩
    simp (disch := first | (simp only [List.length_append, List.length_cons, List.length_nil]; omega) | (simp; done) | assumption) [AV.cells?, AV.isCell, tx0, tx1, tx2, cutC, bodyOf, Tryz.f49, sq22, hlen, hr, h2]
end Go.Proofs.YtmhidempoabehaaGreatDoor.NF
/- ast.Check, evaluated. No condition. -/
namespace Go.Proofs.YtmhidempoabehaaGreatDoor.NF
set_option linter.unusedVariables false
set_option linter.unusedSimpArgs false
open Go AE EX PT
set_option maxRecDepth 100000

theorem nodesL_all {q : X → Prop} : ∀ l : List X, (∀ y ∈ nodesL l, q y) ↔ ∀ x ∈ l, ∀ y ∈ x.nodes, q y
  | [] => by simp [nodesL]
  | x :: l => by
    have := nodesL_all (q := q) l
    simp only [nodesL, List.mem_append, List.mem_cons]
    constructor
    · rintro h z (rfl | hz) y hy
      · exact h y (.inl hy)
      · exact this.1 (fun y hy => h y (.inr hy)) z hz y hy
    · rintro h y (hy | hy)
      · exact h x (.inl rfl) y hy
      · exact this.2 (fun z hz => h z (.inr hz)) y hy
theorem mayAll_set {k : Int} {nm : List UInt8} {a lo hi : Int} {tk : Bool} {kids : List X} (h4 : k = 4) :
    MayAll (.mk k nm a lo hi tk kids) ↔ Fits k nm a lo hi ∧ SetOK kids := by
  subst h4
  constructor
  · intro h
    obtain ⟨_, _, g3, g4⟩ := h _ (List.mem_cons_self ..)
    exact ⟨g4, g3 rfl⟩
  · rintro ⟨g4, g3⟩ y hy
    simp [X.nodes] at hy
    subst hy
    exact ⟨by simp [kinds], fun h => absurd rfl h, fun _ => g3, g4⟩
theorem mayAll_more {k : Int} {nm : List UInt8} {a lo hi : Int} {tk : Bool} {kids : List X} (h4 : k ≠ 4) :
    MayAll (.mk k nm a lo hi tk kids) ↔ kinds k ∧ (kids.length : Int) = kidsI k ∧ Fits k nm a lo hi ∧ ∀ x ∈ kids, MayAll x := by
  have h4' : (k == 4) = false := by simp [h4]
  have hn : (X.mk k nm a lo hi tk kids).nodes = X.mk k nm a lo hi tk kids :: nodesL kids := by simp [X.nodes, h4']
  unfold MayAll
  rw [hn]
  constructor
  · intro h
    obtain ⟨g1, g2, _, g4⟩ := h _ (List.mem_cons_self ..)
    exact ⟨g1, g2 h4, g4, (nodesL_all kids).1 fun y hy => h y (List.mem_cons_of_mem _ hy)⟩
  · rintro ⟨g1, g2, g4, hk⟩ y hy
    rcases List.mem_cons.1 hy with rfl | hy
    · exact ⟨g1, fun _ => g2, fun h => absurd h h4, g4⟩
    · exact (nodesL_all kids).2 hk y hy

theorem bulkL_mem {x : X} : ∀ {l : List X}, x ∈ l → x.bulk ≤ bulkL l
  | y :: l, h => by
    rcases List.mem_cons.1 h with rfl | h
    · simp [bulkL]
    · have := bulkL_mem h; simp [bulkL]; omega
theorem bulkL_length : ∀ l : List X, 7 * l.length ≤ bulkL l
  | [] => by simp [bulkL]
  | .mk k nm n lo hi tk kids :: l => by
    have := bulkL_length l
    simp [bulkL, X.bulk]; omega

theorem ev_mayKid (n : Nat) (x : X) (S : St) (b : Bool) (h : ev Tryz.prog E n 30 [x.emb] S = some (.ret (.bool b), S)) : ev Tryz.prog E (n + 1) 52 [x.emb] S = some (.ret (.bool (!b)), S) := by
  rw [ev_enter (n := n) (show E.ok 52 = true from rfl) Tryz.func52 (fn := Tryz.f52) rfl (Nat.le_of_ble_eq_true rfl) (by decide +kernel)]
  have ha1 := cells_all x
  have hc1 := (cells_ok x).2
  have ht1 : List.take 6 x.cells = x.cells := List.take_of_length_le (by omega)
  rw [emb_cells] at h ⊢
  generalize x.cells = C1 at *
  simp (disch := first | (simp only [List.length_append, List.length_cons, List.length_nil]; omega) | (simp; done) | assumption) [AV.cells?, AV.isCell, Tryz.f52, E_esc, k24, c24, a24, h, ha1, hc1, ht1]

set_option maxHeartbeats 4000000 in
theorem ev_may : ∀ (m : Nat) (x : X), x.bulk ≤ m → m ≤ 1048576 → ∀ n, m + 20 ≤ n → ∀ S, ∃ b, ev Tryz.prog E n 30 [x.emb] S = some (.ret (.bool b), S) ∧ (b = true ↔ MayAll x)
  | 0, x, hm, _, _, _, _ => absurd hm (by have := size_pos x; have := size_bulk x; omega)
  | m + 1, x, hm, hmm, n, hn, S => by
    obtain ⟨n, rfl⟩ : ∃ k, n = k + 4 := ⟨n - 4, by omega⟩
    obtain ⟨k, nm, a, lo, hi, tk, kids⟩ := x
    simp only [X.bulk] at hm
    have hl := bulkL_length kids
    have hlen := embL_length kids
    have hrec : ∀ q, m ≤ q + 6 → ∀ x ∈ kids, ∀ S, ∃ b, ev Tryz.prog E (q + 20) 30 [x.emb] S = some (.ret (.bool b), S) ∧ (b = true ↔ MayAll x) := fun q hq x hx S => by
      have := bulkL_mem hx
      exact ev_may (m - 6) x (by omega) (by omega) (q + 20) (by omega) S
    have hps : E.ps 30 3 = [(1, 4), (2, 4)] := rfl
    simp only [X.emb]
    rw [ev_enter (n := n + 3) (show E.ok 30 = true from rfl) Tryz.func30 (fn := Tryz.f30) rfl (Nat.le_of_ble_eq_true rfl) (by decide +kernel)]
    cases h4 : k == 4
    · have h4' : k ≠ 4 := by simpa using h4
      rw [mayAll_more h4']
      have hK := ev_aKids (n + 2) k S
      cases e1 : (kidsI k == (kids.length : Int))
      · refine ⟨false, ?_, iff_of_false (by simp) fun g => by have := g.2.1; rw [this] at e1; simp at e1⟩
        simp (disch := first | (simp only [List.length_append, List.length_cons, List.length_nil]; omega) | (simp; done) | assumption) [AV.cells?, AV.isCell, Tryz.f30, E_esc, k24, c24, a24, k3, c3, a3, k22, c22, a22, fq0, fq5, bq3, hlen, sq22, h4, hps, hK, e1]
      have e1' : (kids.length : Int) = kidsI k := by simp at e1; omega
      have hk : kinds k := by
        by_cases hk : kinds k
        · exact hk
        · rw [kidsI_out hk] at e1'; omega
      obtain ⟨b1, hO, hb1⟩ := ev_own (n + 3) k nm (by omega) (by omega) a lo hi (.slice (embL kids) (tokOf tk)) rfl hk S
      cases b1
      · refine ⟨false, ?_, iff_of_false (by simp) fun g => by have := hb1.2 g.2.2.1; cases this⟩
        simp (disch := first | (simp only [List.length_append, List.length_cons, List.length_nil]; omega) | (simp; done) | assumption) [AV.cells?, AV.isCell, Tryz.f30, E_esc, k24, c24, a24, k3, c3, a3, k22, c22, a22, fq0, fq5, bq3, hlen, sq22, h4, hps, hK, e1, hO]
      obtain ⟨b2, hC, hb2⟩ := ev_Contains (n + 1) kids (tokOf tk) 52 (fun x => ¬ MayAll x) S (by omega) (by omega) (fun x hx S => by
        obtain ⟨q, hq⟩ : ∃ q, n = q + 20 := ⟨n - 20, by omega⟩
        obtain ⟨b, h1, h2⟩ := hrec q (by omega) x hx S
        rw [← hq] at h1
        exact ⟨!b, ev_mayKid n x S b h1, by rw [← h2]; cases b <;> simp⟩)
      refine ⟨!b2, ?_, ?_⟩
      · cases b2 <;> simp (disch := first | (simp only [List.length_append, List.length_cons, List.length_nil]; omega) | (simp; done) | assumption) [AV.cells?, AV.isCell, Tryz.f30, E_esc, k24, c24, a24, k3, c3, a3, k22, c22, a22, fq0, fq5, bq3, hlen, sq22, h4, hps, hK, e1, hO, hC]
      · have : (b2 = true) ↔ ¬ ∀ x ∈ kids, MayAll x := by rw [hb2]; simp
        have h0 := hb1.1 rfl
        cases b2
        · simp at this
          exact iff_of_true rfl ⟨hk, e1', h0, this⟩
        · exact iff_of_false (by simp) fun g => this.1 rfl g.2.2.2
    · have h4' : k = 4 := by simpa using h4
      rw [mayAll_set h4']
      subst h4'
      obtain ⟨b1, hO, hb1⟩ := ev_own (n + 3) 4 nm (by omega) (by omega) a lo hi (.slice (embL kids) (tokOf tk)) rfl (by simp [kinds]) S
      cases b1
      · refine ⟨false, ?_, iff_of_false (by simp) fun g => by have := hb1.2 g.1; cases this⟩
        simp (disch := first | (simp only [List.length_append, List.length_cons, List.length_nil]; omega) | (simp; done) | assumption) [AV.cells?, AV.isCell, Tryz.f30, E_esc, k24, c24, a24, k3, c3, a3, k22, c22, a22, fq0, fq5, bq3, hlen, sq22, hO]
      obtain ⟨b2, hC, hb2⟩ := ev_texts (n + 2) kids (tokOf tk) S (by omega) (by omega) (fun x hx S => by
        obtain ⟨q, hq⟩ : ∃ q, n + 2 = q + 20 := ⟨n - 18, by omega⟩
        obtain ⟨b, h1, h2⟩ := hrec q (by omega) x hx S
        rw [← hq] at h1
        exact ⟨b, h1, h2⟩)
      refine ⟨b2, ?_, ?_⟩
      · cases b2 <;> simp (disch := first | (simp only [List.length_append, List.length_cons, List.length_nil]; omega) | (simp; done) | assumption) [AV.cells?, AV.isCell, Tryz.f30, E_esc, k24, c24, a24, k3, c3, a3, k22, c22, a22, fq0, fq5, bq3, hlen, sq22, hO, hC]
      · rw [hb2]
        exact ⟨fun h => ⟨hb1.1 rfl, h⟩, fun h => h.2⟩

open Classical in
/-- what Check answers -/
noncomputable def chkX (x : X) : Int := if 12 < x.dep then 32 else if 64 < x.nodes.length then 3 else if MayAll x then 0 else 12
theorem chkX_ok (x : X) : chkX x = 0 ↔ OKx x := by
  unfold chkX OKx
  by_cases h1 : 12 < x.dep
  · rw [if_pos h1]
    exact iff_of_false (by decide) fun h => by have := h.1; omega
  · rw [if_neg h1]
    by_cases h2 : 64 < x.nodes.length
    · rw [if_pos h2]
      exact iff_of_false (by decide) fun h => by have := h.2.1; omega
    · rw [if_neg h2]
      by_cases h3 : MayAll x
      · rw [if_pos h3]
        exact iff_of_true rfl ⟨by omega, by omega, h3⟩
      · rw [if_neg h3]
        exact iff_of_false (by decide) fun h => h3 h.2.2
theorem ev_aCheckC (n : Nat) (x : X) (hx : x.bulk + 22 ≤ n) (hs : x.bulk ≤ 1048576) (S : St) :
    ev Tryz.prog E (n + 1) 16 [x.emb] S = some (.ret (.int .i64 (chkX x)), S) := by
  have hsz := size_bulk x
  have hsz7 := size7 x
  have hD := ev_aDepth x.size x (Nat.le_refl _) (by omega) n (by omega) S
  have hA := ev_aSize x.size x (Nat.le_refl _) (by omega) n (by omega) S
  obtain ⟨b, hM, hb⟩ := ev_may x.bulk x (Nat.le_refl _) hs n (by omega) S
  have ha1 := cells_all x
  have hc1 := (cells_ok x).2
  have ht1 : List.take 6 x.cells = x.cells := List.take_of_length_le (by omega)
  rw [ev_enter (n := n) (show E.ok 16 = true from rfl) Tryz.func16 (fn := Tryz.f16) rfl (Nat.le_of_ble_eq_true rfl) (by decide +kernel)]
  rw [emb_cells] at hD hA hM ⊢
  by_cases h12 : 12 < x.dep
  · have h12z : (12 : Int) < x.dep := by omega
    have hk : chkX x = 32 := by unfold chkX; rw [if_pos h12]
    rw [hk]
    clear hk
    generalize x.cells = C1 at *
    simp (disch := first | (simp only [List.length_append, List.length_cons, List.length_nil]; omega) | (simp; done) | assumption) [AV.cells?, AV.isCell, Tryz.f16, E_esc, k24, c24, a24, bq3, ha1, hc1, ht1, hD, h12, h12z]
  have h12z : ¬ (12 : Int) < x.dep := by omega
  by_cases h64 : 64 < x.nodes.length
  · have h64z : (64 : Int) < x.nodes.length := by omega
    have hk : chkX x = 3 := by unfold chkX; rw [if_neg h12, if_pos h64]
    rw [hk]
    clear hk
    generalize x.cells = C1 at *
    simp (disch := first | (simp only [List.length_append, List.length_cons, List.length_nil]; omega) | (simp; done) | assumption) [AV.cells?, AV.isCell, Tryz.f16, E_esc, k24, c24, a24, bq3, ha1, hc1, ht1, hD, hA, h12, h12z, h64, h64z]
  have h64z : ¬ (64 : Int) < x.nodes.length := by omega
  cases b
  · have hk : chkX x = 12 := by unfold chkX; rw [if_neg h12, if_neg h64, if_neg fun h => by have := hb.2 h; cases this]
    rw [hk]
    clear hk
    generalize x.cells = C1 at *
    simp (disch := first | (simp only [List.length_append, List.length_cons, List.length_nil]; omega) | (simp; done) | assumption) [AV.cells?, AV.isCell, Tryz.f16, E_esc, k24, c24, a24, bq3, ha1, hc1, ht1, hD, hA, hM, h12, h12z, h64, h64z]
  · have hk : chkX x = 0 := by unfold chkX; rw [if_neg h12, if_neg h64, if_pos (hb.1 rfl)]
    rw [hk]
    clear hk
    generalize x.cells = C1 at *
    simp (disch := first | (simp only [List.length_append, List.length_cons, List.length_nil]; omega) | (simp; done) | assumption) [AV.cells?, AV.isCell, Tryz.f16, E_esc, k24, c24, a24, bq3, ha1, hc1, ht1, hD, hA, hM, h12, h12z, h64, h64z]
theorem ev_aCheck (n : Nat) (x : X) (hx : x.bulk + 22 ≤ n) (hs : x.bulk ≤ 1048576) (S : St) :
    ∃ c : Int, ev Tryz.prog E (n + 1) 16 [x.emb] S = some (.ret (.int .i64 c), S) ∧ (c = 0 ↔ OKx x) := ⟨_, ev_aCheckC n x hx hs S, chkX_ok x⟩
end Go.Proofs.YtmhidempoabehaaGreatDoor.NF
/- Are two expressions alike? No condition. -/
namespace Go.Proofs.YtmhidempoabehaaGreatDoor.PT
set_option linter.unusedVariables false
set_option linter.unusedSimpArgs false
open Go AE EX
set_option maxRecDepth 100000

mutual
def _root_.Go.Proofs.YtmhidempoabehaaGreatDoor.EX.X.same : X → X → Bool
  | .mk k nm n lo hi _ ks, .mk k' nm' n' lo' hi' _ ks' => k == k' && nm == nm' && n == n' && lo == lo' && hi == hi' && ks.length == ks'.length && sameL ks ks'
def sameL : List X → List X → Bool
  | [], [] => true
  | a :: l, b :: m => a.same b && sameL l m
  | _, _ => false
end
theorem sameL_append : ∀ (a a' b b' : List X), a.length = a'.length → sameL (a ++ b) (a' ++ b') = (sameL a a' && sameL b b')
  | [], [], b, b', _ => by simp [sameL]
  | x :: a, y :: a', b, b', h => by
    simp only [List.cons_append, sameL, sameL_append a a' b b' (by simpa using h), Bool.and_assoc]
  | [], _ :: _, _, _, h => by simp at h
  | _ :: _, [], _, _, h => by simp at h

end Go.Proofs.YtmhidempoabehaaGreatDoor.PT
/- ast.Same, evaluated (made by gensm.py). No condition. -/
namespace Go.Proofs.YtmhidempoabehaaGreatDoor.NF
set_option linter.unusedVariables false
set_option linter.unusedSimpArgs false
open Go AE EX PT
set_option maxRecDepth 100000


noncomputable def efLoop : Code := cutC (bodyOf Tryz.f21) [1, 1, 0, 1, 0, 0]
noncomputable def ef0 : Code := cutC (bodyOf Tryz.f21) [0]
noncomputable def ef1 : Code := cutC (bodyOf Tryz.f21) [1, 0]
noncomputable def ef2 : Code := cutC (bodyOf Tryz.f21) [1, 1, 0, 0]
noncomputable def ef3 : Code := cutC (bodyOf Tryz.f21) [1, 1, 1]
theorem f62b : Tryz.f21.body = some (.seq ef0 (.seq ef1 (.seq (.seq ef2 (.block 0 (.loop efLoop))) ef3))) := rfl

def EFI (ks ks' : List X) (tok tok' : Tok) (S0 : St) (m : Nat) (fs : FS) : Prop :=
  ∃ i, i + m = ks.length ∧ fs.t 1 = .slice (embL ks') tok' ∧ fs.t 2 = .fn 7 [] [] ∧ fs.t 15 = .slice (embL ks) tok ∧ fs.t 16 = .int .i64 ks.length ∧ fs.t 17 = .int .i64 i ∧ fs.S = S0 ∧ sameL (ks.take i) (ks'.take i) = true
def EFQ (ks ks' : List X) (S0 : St) (r : Out × FS) : Prop :=
  r.2.S = S0 ∧ ((r.1 = .exit 0 ∧ sameL ks ks' = true) ∨ (r.1 = .ret ∧ r.2.t 6 = .bool false ∧ sameL ks ks' = false))

theorem ef_round (n : Nat) (ks ks' : List X) (tok tok' : Tok) (S0 : St) (hs : ks.length ≤ 1048576) (hl : ks'.length = ks.length)
    (hrec : ∀ x ∈ ks, ∀ y ∈ ks', ∀ S, ev Tryz.prog E n 7 [x.emb, y.emb] S = some (.ret (.bool (x.same y)), S)) (m : Nat) (fs : FS) (h : EFI ks ks' tok tok' S0 m fs) :
    ∃ o fs', evCode ⟨Tryz.prog, E.esc 21, n⟩ (ev Tryz.prog E n) (E.ps 21) n efLoop fs = some (o, fs') ∧ ((o = .norm ∧ ∃ m', m' < m ∧ EFI ks ks' tok tok' S0 m' fs') ∨ (o ≠ .norm ∧ EFQ ks ks' S0 (o, fs'))) := by
  obtain ⟨t, b, v, S⟩ := fs
  obtain ⟨i, hi, h1, h2, h3, h4, h5, h6, h7⟩ := h
  simp only at h1 h2 h3 h4 h5 h6
  subst h6
  have hlen := embL_length ks
  have hlen' := embL_length ks'
  cases m with
  | zero =>
    have hi : i = ks.length := by omega
    subst hi
    refine ⟨.exit 0, _, by
      simp (disch := first | (simp only [List.length_append, List.length_cons, List.length_nil]; omega) | (simp; done) | assumption) [AV.cells?, AV.isCell, efLoop, cutC, bodyOf, Tryz.f21, h1, h2, h3, h4, h5, bq3]
      rfl, .inr ⟨by simp, rfl, .inl ⟨rfl, by rw [List.take_length, ← hl, List.take_length] at h7; exact h7⟩⟩⟩
  | succ m =>
    have hlt : i < ks.length := by omega
    have hlt' : i < ks'.length := by omega
    have hltz : (i : Int) < ks.length := by omega
    have hxe : ks[i]? = some ks[i] := List.getElem?_eq_getElem hlt
    have hye : ks'[i]? = some ks'[i] := List.getElem?_eq_getElem hlt'
    have hr := hrec ks[i] (List.getElem_mem hlt) ks'[i] (List.getElem_mem hlt') S
    have hemb : (embL ks)[i]? = some ks[i].emb := by rw [embL_map, List.getElem?_map, hxe]; rfl
    have hemb' : (embL ks')[i]? = some ks'[i].emb := by rw [embL_map, List.getElem?_map, hye]; rfl
    have t1 : ks.take (i + 1) = ks.take i ++ [ks[i]] := by rw [List.take_add_one, hxe]; rfl
    have t2 : ks'.take (i + 1) = ks'.take i ++ [ks'[i]] := by rw [List.take_add_one, hye]; rfl
    have hw : IntKind.i64.wrap ((i : Int) + 1) = (i : Int) + 1 := wrap64 _ (by omega)
    have ha1 := cells_all ks[i]
    have hc1 := (cells_ok ks[i]).2
    have ht1 : List.take 6 ks[i].cells = ks[i].cells := List.take_of_length_le (by omega)
    have ha2 := cells_all ks'[i]
    have hc2 := (cells_ok ks'[i]).2
    have ht2 : List.take 6 ks'[i].cells = ks'[i].cells := List.take_of_length_le (by omega)
    have hsame : sameL (ks.take (i + 1)) (ks'.take (i + 1)) = ks[i].same ks'[i] := by
      rw [t1, t2, sameL_append _ _ _ _ (by simp; omega), h7]; simp [sameL]
    have hno : ks[i].same ks'[i] = false → sameL ks ks' = false := fun h => by
      have d1 : ks = ks.take (i + 1) ++ ks.drop (i + 1) := (List.take_append_drop _ _).symm
      have d2 : ks' = ks'.take (i + 1) ++ ks'.drop (i + 1) := (List.take_append_drop _ _).symm
      rw [d1, d2, sameL_append _ _ _ _ (by simp; omega), hsame, h]; rfl
    obtain ⟨z, hz⟩ := ii24
    rw [emb_cells] at hemb hemb'
    rw [emb_cells, emb_cells] at hr
    generalize hq : ks[i].same ks'[i] = q at *
    generalize ks[i].cells = C1 at *
    generalize ks'[i].cells = C2 at *
    cases q
    · refine ⟨.ret, _, by
        simp (disch := first | (simp only [List.length_append, List.length_cons, List.length_nil]; omega) | (simp; done) | assumption) [AV.cells?, AV.isCell, efLoop, cutC, bodyOf, Tryz.f21, E_esc, h1, h2, h3, h4, h5, k24, c24, a24, z24, i24, hz, sq22, bq3, hlen, hlen', hlt, hlt', hltz, hemb, hemb', hr, ha1, hc1, ht1, ha2, hc2, ht2]
        rfl, .inr ⟨by simp, rfl, .inr ⟨rfl, by simp [upd], hno rfl⟩⟩⟩
    · refine ⟨.norm, _, by
        simp (disch := first | (simp only [List.length_append, List.length_cons, List.length_nil]; omega) | (simp; done) | assumption) [AV.cells?, AV.isCell, efLoop, cutC, bodyOf, Tryz.f21, E_esc, h1, h2, h3, h4, h5, k24, c24, a24, z24, i24, hz, sq22, bq3, hlen, hlen', hlt, hlt', hltz, hemb, hemb', hr, ha1, hc1, ht1, ha2, hc2, ht2]
        rfl, .inl ⟨rfl, m, by omega, i + 1, by omega, by simp [upd, h1], by simp [upd, h2], by simp [upd, h3], by simp [upd, h4], by simp [upd, hw], rfl, hsame⟩⟩

theorem sameL_length : ∀ (l m : List X), sameL l m = true → l.length = m.length
  | [], [], _ => rfl
  | x :: l, y :: m, h => by
    simp only [sameL, Bool.and_eq_true] at h
    simp [sameL_length l m h.2]
  | [], _ :: _, h => by cases h
  | _ :: _, [], h => by cases h

theorem ev_EqualFunc (n : Nat) (ks ks' : List X) (tok tok' : Tok) (S : St) (hs : ks.length ≤ 1048576) (hs' : ks'.length ≤ 1048576) (hn : ks.length < n)
    (hrec : ∀ x ∈ ks, ∀ y ∈ ks', ∀ S, ev Tryz.prog E n 7 [x.emb, y.emb] S = some (.ret (.bool (x.same y)), S)) :
    ev Tryz.prog E (n + 1) 21 [.slice (embL ks) tok, .slice (embL ks') tok', .fn 7 [] []] S = some (.ret (.bool (sameL ks ks')), S) := by
  have hlen := embL_length ks
  have hlen' := embL_length ks'
  rw [ev_enter (n := n) (show E.ok 21 = true from rfl) Tryz.func21 f62b (Nat.le_of_ble_eq_true rfl) (by decide +kernel)]
  cases e : ((ks.length : Int) == (ks'.length : Int))
  · have hp : sameL ks ks' = false := by
      rw [Bool.eq_false_iff]; intro h
      have := sameL_length _ _ h
      simp at e; omega
    have e' : ¬ ks.length = ks'.length := by simp at e; omega
    simp (disch := first | (simp only [List.length_append, List.length_cons, List.length_nil]; omega) | (simp; done) | assumption) [AV.cells?, AV.isCell, ef0, ef1, ef2, ef3, cutC, bodyOf, Tryz.f21, sq22, bq3, hlen, hlen', hp, bne, e, e']
  · have e' : ks.length = ks'.length := by simp at e; omega
    obtain ⟨⟨o, t, b, v, S'⟩, hr, hS, hq⟩ := iter_meas (fun m fs h => ef_round n ks ks' tok tok' S hs (by omega) hrec m fs h) ks.length n
      ⟨upd 17 (.int .i64 0) (upd 16 (.int .i64 ks.length) (upd 15 (.slice (embL ks) tok) (upd 14 (.bool false) (upd 13 (.int .i64 ks'.length) (upd 12 (.slice (embL ks') tok') (upd 11 (.int .i64 ks.length) (upd 10 (.slice (embL ks) tok) (upd 6 (.bool false) (argsA [.slice (embL ks) tok, .slice (embL ks') tok', .fn 7 [] []]))))))))), fun _ => (0, []), 9, S⟩ hn
      ⟨0, by omega, by simp [upd, argsA], by simp [upd, argsA], by simp [upd], by simp [upd], by simp [upd], rfl, by simp [sameL]⟩
    simp only at hS hq
    subst hS
    rcases hq with ⟨rfl, ha⟩ | ⟨rfl, h2, ha⟩
    · simp (disch := first | (simp only [List.length_append, List.length_cons, List.length_nil]; omega) | (simp; done) | assumption) [AV.cells?, AV.isCell, ef0, ef1, ef2, ef3, cutC, bodyOf, Tryz.f21, sq22, bq3, hlen, hlen', bne, e, hr, ha]
    · simp (disch := first | (simp only [List.length_append, List.length_cons, List.length_nil]; omega) | (simp; done) | assumption) [AV.cells?, AV.isCell, ef0, ef1, ef2, ef3, cutC, bodyOf, Tryz.f21, sq22, bq3, hlen, hlen', bne, e, hr, ha, h2]

theorem same_len (k k' n n' lo lo' hi hi' : Int) (nm nm' : List UInt8) (tk tk' : Bool) (ks ks' : List X) :
    (X.mk k nm n lo hi tk ks).same (.mk k' nm' n' lo' hi' tk' ks') = (k == k' && nm == nm' && n == n' && lo == lo' && hi == hi' && sameL ks ks') := by
  simp only [X.same, Bool.and_assoc]
  congr 5
  cases h : sameL ks ks'
  · simp
  · simp [sameL_length _ _ h]

set_option maxHeartbeats 4000000 in
theorem ev_aSame : ∀ (m : Nat) (x y : X), x.size ≤ m → y.size ≤ 1048576 → m ≤ 1048576 → ∀ n, 2 * m + 2 ≤ n → ∀ S, ev Tryz.prog E n 7 [x.emb, y.emb] S = some (.ret (.bool (x.same y)), S)
  | 0, x, y, hm, _, _, _, _, _ => absurd hm (by have := size_pos x; omega)
  | m + 1, x, y, hm, hy, hmm, n, hn, S => by
    obtain ⟨n, rfl⟩ : ∃ k, n = k + 2 := ⟨n - 2, by omega⟩
    obtain ⟨k, nm, a, lo, hi, tk, ks⟩ := x
    obtain ⟨k', nm', a', lo', hi', tk', ks'⟩ := y
    simp only [X.size] at hm hy
    have hl := sizeL_length ks
    have hl' := sizeL_length ks'
    have hE := ev_EqualFunc n ks ks' (tokOf tk) (tokOf tk') S (by omega) (by omega) (by omega) (fun x hx y hy S => ev_aSame m x y (by have := sizeL_mem hx; omega) (by have := sizeL_mem hy; omega) (by omega) n (by omega) S)
    rw [same_len]
    simp only [X.emb]
    generalize sameL ks ks' = q at *
    generalize embL ks = e1 at *
    generalize embL ks' = e2 at *
    rw [ev_enter (n := n + 1) (show E.ok 7 = true from rfl) Tryz.func7 (fn := Tryz.f7) rfl (Nat.le_of_ble_eq_true rfl) (by decide +kernel)]
    cases g1 : (k == k')
    · simp (disch := first | (simp only [List.length_append, List.length_cons, List.length_nil]; omega) | (simp; done) | assumption) [AV.cells?, AV.isCell, Tryz.f7, E_esc, k24, c24, a24, k3, c3, a3, k2, c2, a2, k9, c9, a9, k22, c22, a22, fq0, fq1, fq2, fq3, fq4, fq5, bq3, bq2, bq9, g1]
    cases g2 : (nm == nm')
    · simp (disch := first | (simp only [List.length_append, List.length_cons, List.length_nil]; omega) | (simp; done) | assumption) [AV.cells?, AV.isCell, Tryz.f7, E_esc, k24, c24, a24, k3, c3, a3, k2, c2, a2, k9, c9, a9, k22, c22, a22, fq0, fq1, fq2, fq3, fq4, fq5, bq3, bq2, bq9, g1, g2]
    cases g3 : (a == a')
    · simp (disch := first | (simp only [List.length_append, List.length_cons, List.length_nil]; omega) | (simp; done) | assumption) [AV.cells?, AV.isCell, Tryz.f7, E_esc, k24, c24, a24, k3, c3, a3, k2, c2, a2, k9, c9, a9, k22, c22, a22, fq0, fq1, fq2, fq3, fq4, fq5, bq3, bq2, bq9, g1, g2, g3]
    cases g4 : (lo == lo')
    · simp (disch := first | (simp only [List.length_append, List.length_cons, List.length_nil]; omega) | (simp; done) | assumption) [AV.cells?, AV.isCell, Tryz.f7, E_esc, k24, c24, a24, k3, c3, a3, k2, c2, a2, k9, c9, a9, k22, c22, a22, fq0, fq1, fq2, fq3, fq4, fq5, bq3, bq2, bq9, g1, g2, g3, g4]
    cases g5 : (hi == hi')
    · simp (disch := first | (simp only [List.length_append, List.length_cons, List.length_nil]; omega) | (simp; done) | assumption) [AV.cells?, AV.isCell, Tryz.f7, E_esc, k24, c24, a24, k3, c3, a3, k2, c2, a2, k9, c9, a9, k22, c22, a22, fq0, fq1, fq2, fq3, fq4, fq5, bq3, bq2, bq9, g1, g2, g3, g4, g5]
    cases q <;> simp (disch := first | (simp only [List.length_append, List.length_cons, List.length_nil]; omega) | (simp; done) | assumption) [AV.cells?, AV.isCell, Tryz.f7, E_esc, k24, c24, a24, k3, c3, a3, k2, c2, a2, k9, c9, a9, k22, c22, a22, fq0, fq1, fq2, fq3, fq4, fq5, bq3, bq2, bq9, g1, g2, g3, g4, g5, hE]
end Go.Proofs.YtmhidempoabehaaGreatDoor.NF
/- The lexer: its state, put, word, evaluated. No condition. -/
namespace Go.Proofs.YtmhidempoabehaaGreatDoor.LX
set_option linter.unusedVariables false
set_option linter.unusedSimpArgs false
open Go AE EX PT NF
set_option maxRecDepth 100000

/-- outside, all that was there stands -/
structure Grows (S0 S' : St) : Prop where
  h : S'.H.take S0.H.length = S0.H
  t : S'.T.take S0.T.length = S0.T
theorem Grows.app (S0 : St) (h : List HBox) (t : List Nat) : Grows S0 ⟨S0.H ++ h, S0.T ++ t⟩ := ⟨by simp, by simp⟩
theorem Grows.len {S0 S' : St} (g : Grows S0 S') : S0.H.length ≤ S'.H.length := by
  have := congrArg List.length g.h
  simp at this
  omega
theorem Grows.push {S0 S' : St} (g : Grows S0 S') (h : List HBox) : Grows S0 ⟨S'.H ++ h, S'.T⟩ := ⟨by
  simp only
  rw [List.take_append_of_le_length g.len]
  exact g.h, g.t⟩
theorem fin_grow {S S' : St} (g : Grows S S') (v : AV) (h1 : v.sealed = true) (h2 : v.strip S.T.length = v) (h3 : v.low S.H.length S.T.length = true) : finish S v S' = some (v, S) := by
  have h4 := g.h
  have h5 := g.t
  unfold finish
  simp [h1, h2, h3, h4, h5, boxEqL_refl]

/-- a word -/
structure Tk where
  k : Int
  s : List UInt8
  n : Int
  p : Int
def Tk.cells (t : Tk) : List AV := [.int .i64 t.k, .str t.s, .int .i64 t.n, .int .i64 t.p]
def Tk.emb (t : Tk) : AV := .agg t.cells
def tkL (l : List Tk) : List AV := l.map Tk.emb
theorem tkL_length (l : List Tk) : (tkL l).length = l.length := by simp [tkL]
theorem tkL_append (a b : List Tk) : tkL (a ++ b) = tkL a ++ tkL b := by simp [tkL]
theorem tk_all (t : Tk) : t.cells.all AV.isCell = true := rfl
theorem tk_len (t : Tk) : t.cells.length = 4 := rfl
theorem tk_take (t : Tk) : List.take 4 t.cells = t.cells := rfl
theorem sizes_tk : ∀ l : List Tk, sizesOk 4 (tkL l) = true
  | [] => rfl
  | t :: l => by
    have := sizes_tk l
    simp only [tkL] at this
    simp [tkL, sizesOk, Tk.emb, Tk.cells, AV.cells?, AV.isCell, this]

theorem cq_int (k : IntKind) (n : Int) : (AV.int k n).cells? = some [.int k n] := rfl
theorem cq_bool (b : Bool) : (AV.bool b).cells? = some [.bool b] := rfl
theorem cq_str (s : List UInt8) : (AV.str s).cells? = some [.str s] := rfl
theorem cq_slice (e : List AV) (t : Tok) : (AV.slice e t).cells? = some [.slice e t] := rfl
theorem cq_ptr (a b : Nat) : (AV.ptr a b).cells? = some [.ptr a b] := rfl
theorem cq_iface (t : TypeId) (v : AV) : (AV.iface t v).cells? = some [.iface t v] := rfl
theorem cq_nilif : AV.nilif.cells? = some [.nilif] := rfl
theorem cq_agg (cs : List AV) (h : cs.all AV.isCell = true) : (AV.agg cs).cells? = some cs := by simp only [AV.cells?, h, if_true]

def lv (S0 : St) (out : List Tk) : AV := if out = [] then .slice (tkL out) .clip else .slice (tkL out) (.own S0.T.length (4 * out.length))
def lT (out : List Tk) : List Nat := if out = [] then [] else [4 * out.length]
def HS (S0 : St) (b : HBox) : List HBox := S0.H ++ [b]
theorem HS_get (S0 : St) (b : HBox) : (HS S0 b)[S0.H.length]? = some b := by simp [HS]
theorem HS_set (S0 : St) (b c : HBox) : (HS S0 b).set S0.H.length c = HS S0 c := by simp [HS]
theorem HS_len (S0 : St) (b : HBox) : (HS S0 b).length = S0.H.length + 1 := by simp [HS]
theorem HS_inj {S0 : St} {b c : HBox} (h : HS S0 b = HS S0 c) : b = c := by simpa [HS] using h
/-- the lexer's state: its box stands behind what was outside -/
def LSt (S0 : St) (s : List UInt8) (p : Nat) (out : List Tk) : St := ⟨HS S0 ⟨54, [.str s, .int .i64 p, lv S0 out]⟩, S0.T ++ lT out⟩

theorem tz39 : zeroQ Tryz.prog 35 = some [.slice [] .clip] := by kernel_rfl
theorem appT (S0 : St) (out : List Tk) (t : Tk) (H1 : List HBox) (h : out.length ≤ 1048576) :
    evAppend Tryz.prog [35, 35] (lv S0 out) (.slice [.agg t.cells] .clip) ⟨H1, S0.T ++ lT out⟩ = some (lv S0 (out ++ [t]), ⟨H1, S0.T ++ lT (out ++ [t])⟩) := by
  have hs := sizes_tk out
  have ht : sizesOk 4 [.agg t.cells] = true := sizes_tk [t]
  have hl := tkL_length out
  have he : tkL (out ++ [t]) = tkL out ++ [.agg t.cells] := tkL_append out [t]
  have hne : out ++ [t] ≠ [] := by simp
  simp only [evAppend, ts39, tu39, elemsOf, tz46, tc46, ty46, lv, lT, if_neg hne, he]
  by_cases h0 : out = []
  · subst h0
    simp [tkL, sizesOk, Tk.cells, AV.cells?, AV.isCell]
  · simp only [if_neg h0]
    simp [hs, ht, hl]
    omega

theorem fin_keep {S S' : St} {v : AV} (hv : v.sealed = true) (hH : S'.H.length = S.H.length) (c1 : S'.H ≠ S.H ∨ S'.T.take S.T.length ≠ S.T) (c2 : S'.T.take S.T.length ≠ S.T ∨ lowB S.H.length S.T.length S'.H = false) : finish S v S' = some (v, S') := by
  have e1 : S'.H.take S.H.length = S'.H := by rw [← hH, List.take_length]
  unfold finish
  rw [if_pos hv, e1, if_neg, if_neg]
  · split <;> rfl
  · simp only [Bool.and_eq_true, decide_eq_true_eq, beq_iff_eq]
    rintro ⟨⟨⟨_, h1⟩, h2⟩, _⟩
    rcases c2 with c | c
    · exact c h1
    · rw [c] at h2; cases h2
  · simp only [Bool.and_eq_true, beq_iff_eq]
    rintro ⟨⟨h1, h2⟩, _⟩
    rcases c1 with c | c
    · exact c (boxEqL_spec _ _ h1)
    · exact c h2
theorem lowB_append (h0 t0 : Nat) : ∀ a b : List HBox, lowB h0 t0 (a ++ b) = (lowB h0 t0 a && lowB h0 t0 b)
  | [], b => by simp [lowB]
  | x :: a, b => by simp only [List.cons_append, lowB, lowB_append h0 t0 a b, Bool.and_assoc]

theorem fin_putv (S0 : St) (s : List UInt8) (p q : Nat) (out : List Tk) (t : Tk) (v : AV) (hv : v.sealed = true) : finish (LSt S0 s p out) v (LSt S0 s q (out ++ [t])) = some (v, LSt S0 s q (out ++ [t])) := by
  have hne : out ++ [t] ≠ [] := by simp
  have hlv : lv S0 (out ++ [t]) ≠ lv S0 out := fun h => by
    have h1 : ∀ o : List Tk, (match lv S0 o with | .slice es _ => es.length | _ => 0) = o.length := fun o => by
      by_cases h0 : o = []
      · subst h0; simp [lv, tkL]
      · simp [lv, h0, tkL_length]
    have := h1 (out ++ [t])
    rw [h, h1] at this
    simp at this
  refine fin_keep hv (by simp [LSt, HS_len]) (.inl ?_) ?_
  · intro h
    have := HS_inj h
    simp at this
    exact hlv this.2
  · by_cases h0 : out = []
    · subst h0
      refine .inr ?_
      have : lv S0 ([] ++ [t]) = .slice (tkL [t]) (.own S0.T.length 4) := rfl
      simp only [LSt, HS, lowB_append, this]
      simp [lowB, AV.lowL, AV.low, lT]
    · refine .inl ?_
      simp only [LSt, lT, if_neg h0, if_neg hne]
      rw [List.take_of_length_le (by simp)]
      intro h
      have := List.append_cancel_left h
      simp at this
      omega

theorem fin_put (S0 : St) (s : List UInt8) (p q : Nat) (out : List Tk) (t : Tk) : finish (LSt S0 s p out) (.tup []) (LSt S0 s q (out ++ [t])) = some (.tup [], LSt S0 s q (out ++ [t])) := fin_putv S0 s p q out t _ rfl
theorem ev_put (n : Nat) (S0 : St) (s : List UInt8) (p : Nat) (out : List Tk) (t : Tk) (to : Nat) (hl : out.length ≤ 1048576) :
    ev Tryz.prog E (n + 1) 24 [.ptr S0.H.length 0, t.emb, .int .i64 to] (LSt S0 s p out) = some (.ret (.tup []), LSt S0 s to (out ++ [{ t with p := p }])) := by
  have hps : E.ps 24 2 = [(4, 5)] := rfl
  have ha := appT S0 out { t with p := p }
  have hf := fin_put S0 s p to out { t with p := p }
  obtain ⟨k, ts, tn, tp⟩ := t
  simp only [Tk.emb, Tk.cells] at ha hf ⊢
  simp only [LSt] at hf ⊢
  have hbs : ∀ t' : Tk, evBuildSlice Tryz.prog 35 1 [(0, .agg t'.cells)] = some (.slice [.agg t'.cells] .clip) := fun t' => by
    simp [evBuildSlice, ts39, tz46, tc46, ta46, evElems, Tk.cells, AV.cells?, AV.isCell]
  have hbs' := hbs ⟨k, ts, tn, p⟩
  simp only [Tk.cells] at hbs'
  have ha' := fun H1 => ha H1 hl
  clear ha hbs
  have hsl : (lv S0 out).isCell = true := by unfold lv; split <;> rfl
  have hsl' : (lv S0 (out ++ [{ k := k, s := ts, n := tn, p := p }])).isCell = true := by unfold lv; split <;> rfl
  have hcl : ∀ o, (lv S0 o).cells? = some [lv S0 o] := fun o => by unfold lv; split <;> rfl
  have hse : ∀ o : List Tk, (lv S0 o).sealed = true := fun o => by
    have : AV.sealedL (tkL o) = true := by
      induction o with
      | nil => rfl
      | cons a l ih => simpa [tkL, AV.sealedL, Tk.emb, Tk.cells, AV.sealed] using ih
    unfold lv; split <;> simp [AV.sealed, this]
  have hsp := hcl (out ++ [{ k := k, s := ts, n := tn, p := p }])
  have hse' := hse (out ++ [{ k := k, s := ts, n := tn, p := p }])
  generalize lv S0 (out ++ [{ k := k, s := ts, n := tn, p := p }]) = l2 at *
  generalize lT (out ++ [{ k := k, s := ts, n := tn, p := p }]) = T2 at *
  generalize lv S0 out = l1 at *
  generalize S0.T ++ lT out = T1 at *
  generalize S0.T ++ T2 = T3 at *
  rw [ev_enter (n := n) (show E.ok 24 = true from rfl) Tryz.func24 (fn := Tryz.f24) rfl (Nat.le_of_ble_eq_true rfl) (by decide +kernel)]
  simp (disch := first | (simp only [List.length_append, List.length_cons, List.length_nil]; omega) | (simp; done) | assumption) [AV.cells?, AV.isCell, -evBuildSlice, -AV.cells?, cq_int, cq_str, cq_slice, cq_agg, AV.sealed, AV.sealedL, wrc, Tryz.f24, E_esc, tc46, ta46, tk46, ti46, tz46, tq46_0, tq46_1, tq46_2, tq46_3, tc61, ta61, tk61, ti61, tq61_0, tq61_1, tq61_2, k3, c3, a3, i3, tc39, ta39, tk39, ti39, HS_get, HS_set, hbs', ha', hps, hsl, hcl, hsp, hse', hf]
end Go.Proofs.YtmhidempoabehaaGreatDoor.LX
/- The lexer: how far a word goes; faults, evaluated. No condition. -/
namespace Go.Proofs.YtmhidempoabehaaGreatDoor.LX
set_option linter.unusedVariables false
set_option linter.unusedSimpArgs false
open Go AE EX PT NF
set_option maxRecDepth 100000

theorem evCode_assoc {cx : Ctx} {call : Cal} {ps : Nat → List (Nat × Nat)} {L : Nat} (x y z : Code) (fs : FS) : evCode cx call ps L (.seq x (.seq y z)) fs = evCode cx call ps L (.seq (.seq x y) z) fs := by
  rw [evCode_seq, evCode_seq, evCode_seq]
  generalize evCode cx call ps L x fs = r
  match r with
  | none => rfl
  | some (.norm, fs') => rw [seqK_norm, seqK_norm, evCode_seq]
  | some (.ret, _) => rfl
  | some (.exit _, _) => rfl
  | some (.pan _, _) => rfl

/-- where a run of a name's letters ends -/
def far (s : List UInt8) (p : Nat) : Nat := p + ((s.drop p).takeWhile tl).length
theorem takeWhile_len (f : UInt8 → Bool) : ∀ (l : List UInt8) (i : Nat), (∀ j c, j < i → l[j]? = some c → f c = true) → i ≤ l.length → (∀ c, l[i]? = some c → f c = false) → (l.takeWhile f).length = i
  | [], i, _, h, _ => by simp at h; simp [h]
  | c :: l, 0, _, _, h => by
    have := h c rfl
    simp [List.takeWhile, this]
  | c :: l, i + 1, h1, h2, h3 => by
    have := h1 0 c (by omega) rfl
    have ih := takeWhile_len f l i (fun j c hj hc => h1 (j + 1) c (by omega) (by simpa using hc)) (by simpa using h2) (fun c hc => h3 c (by simpa using hc))
    simp [List.takeWhile, this, ih]
theorem far_eq {s : List UInt8} {p q : Nat} (hp : p ≤ q) (hq : q ≤ s.length) (h1 : ∀ j c, p ≤ j → j < q → s[j]? = some c → tl c = true) (h2 : ∀ c, s[q]? = some c → tl c = false) : far s p = q := by
  unfold far
  rw [takeWhile_len tl (s.drop p) (q - p) (fun j c hj hc => h1 (p + j) c (by omega) (by omega) (by simpa using hc)) (by simp; omega) (fun c hc => h2 c (by
    have : s[p + (q - p)]? = some c := by simpa using hc
    rwa [show p + (q - p) = q by omega] at this))]
  omega
theorem far_ge (s : List UInt8) (p : Nat) : p ≤ far s p := by unfold far; omega
theorem takeWhile_le (f : UInt8 → Bool) : ∀ l : List UInt8, (l.takeWhile f).length ≤ l.length
  | [] => by simp
  | c :: l => by
    have := takeWhile_le f l
    simp only [List.takeWhile]
    split <;> simp <;> omega
theorem far_le {s : List UInt8} {p : Nat} (h : p ≤ s.length) : far s p ≤ s.length := by
  unfold far
  have := takeWhile_le tl (s.drop p)
  simp at this
  omega

noncomputable def wdLoop : Code := cutC (bodyOf Tryz.f57) [1, 1, 0, 0, 0]
noncomputable def wd0 : Code := cutC (bodyOf Tryz.f57) [0]
noncomputable def wd1 : Code := cutC (bodyOf Tryz.f57) [1, 0]
noncomputable def wd2 : Code := cutC (bodyOf Tryz.f57) [1, 1, 1]
theorem f53b : Tryz.f57.body = some (.seq wd0 (.seq wd1 (.seq (.block 0 (.loop wdLoop)) wd2))) := rfl

def WDI (id : Nat) (s : List UInt8) (p : Nat) (L : St) (m : Nat) (fs : FS) : Prop :=
  ∃ q, q + m = s.length ∧ p ≤ q ∧ fs.t 0 = .ptr id 0 ∧ fs.t 3 = .int .i64 (q : Int) ∧ fs.S = L ∧ ∀ j c, p ≤ j → j < q → s[j]? = some c → tl c = true
def WDQ (s : List UInt8) (p : Nat) (L : St) (r : Out × FS) : Prop := r.2.S = L ∧ r.1 = .exit 0 ∧ r.2.t 3 = .int .i64 (far s p : Int)

theorem wd_round (n : Nat) (id : Nat) (s : List UInt8) (p : Nat) (v : AV) (L : St) (hL : L.H[id]? = some ⟨54, [.str s, .int .i64 p, v]⟩) (hs : s.length ≤ 1048576) (m : Nat) (fs : FS) (h : WDI id s p L m fs) :
    ∃ o fs', evCode ⟨Tryz.prog, E.esc 57, n + 1⟩ (ev Tryz.prog E (n + 1)) (E.ps 57) (n + 1) wdLoop fs = some (o, fs') ∧ ((o = .norm ∧ ∃ m', m' < m ∧ WDI id s p L m' fs') ∨ (o ≠ .norm ∧ WDQ s p L (o, fs'))) := by
  obtain ⟨t, b, c, S⟩ := fs
  obtain ⟨q, hq, hp, h0, h3, hS, hall⟩ := h
  simp only at h0 h3 hS
  subst hS
  cases m with
  | zero =>
    have hq' : q = s.length := by omega
    subst hq'
    have hfar : far s p = s.length := far_eq hp (Nat.le_refl _) hall (fun c hc => by simp at hc)
    refine ⟨.exit 0, _, by
      simp (disch := first | (simp only [List.length_append, List.length_cons, List.length_nil]; omega) | (simp; done) | assumption) [AV.cells?, AV.isCell, wdLoop, cutC, bodyOf, Tryz.f57, E_esc, h0, h3, hL, tq61_0, tk61, k9, c9, a9, sq9, bq3]
      rfl, .inr ⟨by simp, rfl, rfl, by rw [hfar]; simp [upd, h3]⟩⟩
  | succ m =>
    have hlt : q < s.length := by omega
    have hltz : (q : Int) < s.length := by omega
    have hxe : s[q]? = some s[q] := List.getElem?_eq_getElem hlt
    have hidx : evIndex Tryz.prog 9 (.str s) (.int .i64 (q : Int)) = some (.int .u8 (s[q].toNat : Int)) := by simp [evIndex, sq9, hlt]
    have hl := ev_letter n s[q] S
    have hd := ev_digit n (s[q].toNat : Int) S
    have hw : IntKind.i64.wrap ((q : Int) + 1) = ((q + 1 : Nat) : Int) := by rw [wrap64 _ (by omega)]; omega
    have htl : tl s[q] = (headB (s[q].toNat : Int) || digB (s[q].toNat : Int)) := rfl
    generalize s[q] = x at *
    have good : tl x = true → ∀ j c, p ≤ j → j < q + 1 → s[j]? = some c → tl c = true := fun ht j c h1 h2 hc => by
      by_cases hj : j = q
      · subst hj; rw [hxe] at hc; cases hc; exact ht
      · exact hall j c h1 (by omega) hc
    cases e1 : headB (x.toNat : Int)
    · rw [e1] at hl htl
      cases e2 : digB (x.toNat : Int)
      · rw [e2] at hd htl
        have hfar : far s p = q := far_eq hp (by omega) hall (fun c hc => by rw [hxe] at hc; cases hc; rw [htl]; rfl)
        refine ⟨.exit 0, _, by
          simp (disch := first | (simp only [List.length_append, List.length_cons, List.length_nil]; omega) | (simp; done) | assumption) [AV.cells?, AV.isCell, -evIndex, wdLoop, cutC, bodyOf, Tryz.f57, E_esc, h0, h3, hL, tq61_0, tk61, k9, c9, a9, sq9, bq3, hlt, hltz, hidx, hl, hd]
          rfl, .inr ⟨by simp, rfl, rfl, by rw [hfar]; simp [upd, h3]⟩⟩
      · rw [e2] at hd htl
        refine ⟨.norm, _, by
          simp (disch := first | (simp only [List.length_append, List.length_cons, List.length_nil]; omega) | (simp; done) | assumption) [AV.cells?, AV.isCell, -evIndex, wdLoop, cutC, bodyOf, Tryz.f57, E_esc, h0, h3, hL, tq61_0, tk61, k9, c9, a9, sq9, bq3, hlt, hltz, hidx, hl, hd]
          rfl, .inl ⟨rfl, m, by omega, q + 1, by omega, by omega, by simp [upd, h0], by simp [upd, hw], rfl, good (by rw [htl]; rfl)⟩⟩
    · rw [e1] at hl htl
      refine ⟨.norm, _, by
        simp (disch := first | (simp only [List.length_append, List.length_cons, List.length_nil]; omega) | (simp; done) | assumption) [AV.cells?, AV.isCell, -evIndex, wdLoop, cutC, bodyOf, Tryz.f57, E_esc, h0, h3, hL, tq61_0, tk61, k9, c9, a9, sq9, bq3, hlt, hltz, hidx, hl]
        rfl, .inl ⟨rfl, m, by omega, q + 1, by omega, by omega, by simp [upd, h0], by simp [upd, hw], rfl, good (by rw [htl]; rfl)⟩⟩

theorem ev_word (n : Nat) (id : Nat) (s : List UInt8) (p : Nat) (v : AV) (L : St) (hL : L.H[id]? = some ⟨54, [.str s, .int .i64 p, v]⟩) (hs : s.length ≤ 1048576) (hp : p ≤ s.length) (hn : s.length < n) :
    ev Tryz.prog E (n + 2) 57 [.ptr id 0] L = some (.ret (.int .i64 (far s p)), L) := by
  rw [show n + 2 = (n + 1) + 1 from rfl, ev_enter (n := n + 1) (show E.ok 57 = true from rfl) Tryz.func57 f53b (Nat.le_of_ble_eq_true rfl) (by decide +kernel)]
  obtain ⟨fs1, e1, p1⟩ : ∃ fs', evCode ⟨Tryz.prog, E.esc 57, n + 1⟩ (ev Tryz.prog E (n + 1)) (E.ps 57) (n + 1) (.seq wd0 wd1) ⟨argsA [.ptr id 0], fun _ => (0, []), 0, L⟩ = some (.norm, fs') ∧ WDI id s p L (s.length - p) fs' := by
    refine ⟨_, by
      simp (disch := first | (simp only [List.length_append, List.length_cons, List.length_nil]; omega) | (simp; done) | assumption) [AV.cells?, AV.isCell, wd0, wd1, cutC, bodyOf, Tryz.f57, E_esc, hL, tq61_1, tk61, k3, c3, a3]
      rfl, p, by omega, Nat.le_refl _, by simp [upd, argsA], by simp [upd], rfl, fun j c h1 h2 => by omega⟩
  obtain ⟨⟨o, fs2⟩, r1, r2, r3, r4⟩ := iter_meas (fun m' fs h => wd_round n id s p v L hL hs m' fs h) (s.length - p) (n + 1) fs1 (by omega) p1
  simp only at r2 r3 r4
  subst r3
  rw [evCode_assoc, evCode_seq, e1, seqK_norm, evCode_seq, evCode_block, evCode_loop, r1, blockK_exit, if_pos rfl, seqK_norm]
  obtain ⟨t, b, c, S⟩ := fs2
  simp only at r2 r4
  subst r2
  simp (disch := first | (simp only [List.length_append, List.length_cons, List.length_nil]; omega) | (simp; done) | assumption) [AV.cells?, AV.isCell, wd2, cutC, bodyOf, Tryz.f57, r4]

/-! ### faults -/
/-- a fault, new, outside -/
theorem ev_New (n : Nat) (c a : Int) (S : St) : ev Tryz.prog E (n + 1) 15 [.int .i64 c, .int .i64 a] S = some (.ret (.iface 64 (.ptr S.H.length 0)), ⟨S.H ++ [⟨66, [.int .i64 c, .int .i64 a, .nilif]⟩], S.T⟩) := by
  have he : E.esc 15 8 = true := rfl
  have hbd : evBuild Tryz.prog 66 [(0, .int .i64 c), (1, .int .i64 a)] = some (.agg [.int .i64 c, .int .i64 a, .nilif]) := by
    simp [evBuild, tp58, tz58, fillA, tl58_0, tl58_1, AV.cells?, wrc]
  have hf : finish S (.iface 64 (.ptr S.H.length 0)) ⟨S.H ++ [⟨66, [.int .i64 c, .int .i64 a, .nilif]⟩], S.T⟩ = some (.iface 64 (.ptr S.H.length 0), ⟨S.H ++ [⟨66, [.int .i64 c, .int .i64 a, .nilif]⟩], S.T⟩) := by
    unfold finish
    simp [AV.sealed, AV.strip, AV.low]
  rw [ev_enter (n := n) (show E.ok 15 = true from rfl) Tryz.func15 (fn := Tryz.f15) rfl (Nat.le_of_ble_eq_true rfl) (by decide +kernel)]
  simp (disch := first | (simp only [List.length_append, List.length_cons, List.length_nil]; omega) | (simp; done) | assumption) [AV.cells?, AV.isCell, -evBuild, Tryz.f15, he, hbd, AV.sealed, AV.sealedL, tn55, hf]
end Go.Proofs.YtmhidempoabehaaGreatDoor.LX
/- Decimals, evaluated. No condition. -/
namespace Go.Proofs.YtmhidempoabehaaGreatDoor.PT
set_option linter.unusedVariables false
set_option linter.unusedSimpArgs false
open Go AE EX
set_option maxRecDepth 100000

theorem by5 : Tryz.prog.bytesOf 5 = 1 := by kernel_rfl
theorem sq54 : sliceQ Tryz.prog 76 = some 5 := by kernel_rfl
theorem u54 : Tryz.prog.underlying 76 = some (.slice 5) := by kernel_rfl
theorem z5 : zeroQ Tryz.prog 5 = some [.int .u8 0] := by kernel_rfl
theorem iq52 : intQ Tryz.prog 74 = some .u64 := by kernel_rfl
theorem bq52 : boolQ Tryz.prog 74 = false := by kernel_rfl
theorem sl54 : sliceQ Tryz.prog 76 = some 5 := by kernel_rfl

theorem wrapu64 (n : Int) (h : 0 ≤ n ∧ n < 18446744073709551616) : IntKind.u64.wrap n = n := by
  simp [IntKind.wrap, IntKind.bits, IntKind.signed]; omega
theorem wrapu8 (n : Int) (h : 0 ≤ n ∧ n < 256) : IntKind.u8.wrap n = n := by
  simp [IntKind.wrap, IntKind.bits, IntKind.signed]; omega

/-- a number's size, as 64 bits -/
theorem ev_size (n : Nat) (a : Int) (S : St) (ha : in64 a) : ev Tryz.prog E (n + 1) 32 [.int .i64 a] S = some (.ret (.int .u64 a.natAbs), S) := by
  unfold in64 at ha
  rw [ev_enter (n := n) (show E.ok 32 = true from rfl) Tryz.func32 (fn := Tryz.f32) rfl (Nat.le_of_ble_eq_true rfl) (by decide +kernel)]
  by_cases h : a < 0
  · have w1 : IntKind.u64.wrap (0 - IntKind.u64.wrap a) = a.natAbs := by
      simp [IntKind.wrap, IntKind.bits, IntKind.signed]; omega
    have w1' : IntKind.u64.wrap (-IntKind.u64.wrap a) = a.natAbs := by
      simp [IntKind.wrap, IntKind.bits, IntKind.signed]; omega
    simp [AV.cells?, AV.isCell, Tryz.f32, bq2, iq2, iq52, h, w1, w1', fin_int]
  · have w1 : IntKind.u64.wrap a = a.natAbs := by
      simp [IntKind.wrap, IntKind.bits, IntKind.signed]; omega
    simp [AV.cells?, AV.isCell, Tryz.f32, bq2, iq2, iq52, h, w1, fin_int]

def dig (d : Nat) : UInt8 := UInt8.ofNat (48 + d)
/-- decimals -/
def dg (u : Nat) : List UInt8 := if h : u < 10 then [dig u] else dg (u / 10) ++ [dig (u % 10)]
theorem dg_lt {u : Nat} (h : u < 10) : dg u = [dig u] := by rw [dg, dif_pos h]
theorem dg_ge {u : Nat} (h : ¬ u < 10) : dg u = dg (u / 10) ++ [dig (u % 10)] := by rw [dg, dif_neg h]
theorem dg_len : ∀ (k u : Nat), u < 10 ^ (k + 1) → (dg u).length ≤ k + 1
  | 0, u, h => by rw [dg_lt (by simpa using h)]; simp
  | k + 1, u, h => by
    by_cases hu : u < 10
    · rw [dg_lt hu]; simp
    · rw [dg_ge hu]
      have := dg_len k (u / 10) (by rw [Nat.div_lt_iff_lt_mul (by omega)]; rw [Nat.pow_succ] at h; exact h)
      simp; omega
theorem dg_len20 {u : Nat} (h : u < 18446744073709551616) : (dg u).length ≤ 20 := dg_len 19 u (by omega)
theorem dg_pos (u : Nat) : 1 ≤ (dg u).length := by
  by_cases h : u < 10
  · rw [dg_lt h]; simp
  · rw [dg_ge h]; simp
theorem dig_nat {d : Nat} (h : d < 10) : (dig d).toNat = 48 + d := by
  unfold dig
  simp [UInt8.toNat_ofNat']
  omega

def dec (a : Int) : List UInt8 := if a < 0 then 45 :: dg a.natAbs else dg a.natAbs

def bav (l : List UInt8) : List AV := l.map fun b => .int .u8 b.toNat
theorem bav_sizes : ∀ l : List UInt8, sizesOk 1 (bav l) = true
  | [] => rfl
  | b :: l => by
    have := bav_sizes l
    simp only [bav] at this
    simp [bav, sizesOk, AV.cells?, this]
theorem bav_bytes : ∀ l : List UInt8, bytesOf (bav l) = some l
  | [] => rfl
  | b :: l => by
    have := bav_bytes l
    simp only [bav] at this
    simp [bav, bytesOf, this]
theorem bav_len (l : List UInt8) : (bav l).length = l.length := by simp [bav]

def apTok (xs : List AV) (S : St) : Tok := if xs = [] then .clip else .own S.T.length (1 + xs.length)
def apEx (xs : List AV) : List Nat := if xs = [] then [] else [1 + xs.length]
theorem appB (a : Int) (l : List UInt8) (tok : Tok) (S : St) (h : l.length ≤ 1000) : evAppend Tryz.prog [76, 76] (.slice [.int .u8 a] .clip) (.slice (bav l) tok) S = some (.slice (.int .u8 a :: bav l) (apTok (bav l) S), ⟨S.H, S.T ++ apEx (bav l)⟩) := by
  have hs := bav_sizes l
  have hl := bav_len l
  simp only [evAppend, sq54, u54, elemsOf, z5, c5, by5]
  by_cases hn : bav l = []
  · simp [hn, apTok, apEx, sizesOk, AV.cells?]
  · simp [hn, apTok, apEx, hs, sizesOk, AV.cells?, Nat.add_comm]
    omega
end Go.Proofs.YtmhidempoabehaaGreatDoor.PT
/- Decimals, evaluated, of both. No condition. -/
namespace Go.Proofs.YtmhidempoabehaaGreatDoor.PT
set_option linter.unusedVariables false
set_option linter.unusedSimpArgs false
open Go AE EX
set_option maxRecDepth 100000

noncomputable def dLoop : Code := cutC (bodyOf Tryz.f22) [1, 1, 1, 0, 0, 0]
noncomputable def d0 : Code := cutC (bodyOf Tryz.f22) [0]
noncomputable def d1 : Code := cutC (bodyOf Tryz.f22) [1, 0]
noncomputable def d2 : Code := cutC (bodyOf Tryz.f22) [1, 1, 0]
noncomputable def d3 : Code := cutC (bodyOf Tryz.f22) [1, 1, 1, 1]
theorem f30b : Tryz.f22.body = some (.seq d0 (.seq d1 (.seq d2 (.seq (.block 0 (.loop dLoop)) d3)))) := rfl

def DI (a : Int) (S0 : St) (m : Nat) (fs : FS) : Prop :=
  ∃ (u : Nat) (l : List UInt8) (tok : Tok) (ex : List Nat), fs.t 0 = .int .i64 a ∧ fs.t 3 = .int .u64 u ∧ u < 18446744073709551616 ∧ fs.t 4 = .slice (bav l) tok ∧ dg u ++ l = dg a.natAbs ∧ m = (dg u).length ∧ fs.S = ⟨S0.H, S0.T ++ ex⟩
def DQ (a : Int) (S0 : St) (r : Out × FS) : Prop :=
  r.1 = .exit 0 ∧ ∃ (u : Nat) (l : List UInt8) (tok : Tok) (ex : List Nat), r.2.t 0 = .int .i64 a ∧ r.2.t 3 = .int .u64 u ∧ u < 10 ∧ r.2.t 4 = .slice (bav l) tok ∧ dig u :: l = dg a.natAbs ∧ r.2.S = ⟨S0.H, S0.T ++ ex⟩

theorem dec_round (n : Nat) (a : Int) (ha : in64 a) (S0 : St) (m : Nat) (fs : FS) (h : DI a S0 m fs) :
    ∃ o fs', evCode ⟨Tryz.prog, E.esc 22, n⟩ (ev Tryz.prog E n) (E.ps 22) n dLoop fs = some (o, fs') ∧ ((o = .norm ∧ ∃ m', m' < m ∧ DI a S0 m' fs') ∨ (o ≠ .norm ∧ DQ a S0 (o, fs'))) := by
  obtain ⟨t, b, v, S⟩ := fs
  obtain ⟨u, l, tok, ex, h0, h1, h2, h3, h4, h5, h6⟩ := h
  simp at h0 h1 h3 h6
  subst h6
  unfold in64 at ha
  by_cases hu : u < 10
  · refine ⟨.exit 0, _, by
      simp [AV.cells?, AV.isCell, dLoop, cutC, bodyOf, Tryz.f22, h0, h1, show ¬ ((u : Int) ≥ 10) by omega, bq52]
      rfl, .inr ⟨by simp, rfl, u, l, tok, ex, by simp [upd, h0], by simp [upd, h1], hu, by simp [upd, h3], ?_, rfl⟩⟩
    rw [← h4, dg_lt hu]; rfl
  · have hl : l.length ≤ 1000 := by
      have := congrArg List.length h4
      have h7 := dg_len20 (u := a.natAbs) (by omega)
      simp at this
      omega
    have e1 : ((u : Int).tmod 10) = (u % 10 : Nat) := by rw [Int.tmod_eq_emod_of_nonneg (by omega)]; omega
    have e2 : ((u : Int).tdiv 10) = (u / 10 : Nat) := by rw [Int.tdiv_eq_ediv_of_nonneg (by omega)]; omega
    have w1 : IntKind.u64.wrap (48 + (u % 10 : Nat)) = (48 + (u % 10 : Nat) : Int) := wrapu64 _ (by omega)
    have w2 : IntKind.u8.wrap (48 + (u % 10 : Nat)) = ((dig (u % 10)).toNat : Int) := by
      rw [wrapu8 _ (by omega), dig_nat (by omega)]; omega
    have w3 : IntKind.u64.wrap ((u / 10 : Nat) : Int) = (u / 10 : Nat) := wrapu64 _ (by omega)
    have e3 : (10 : Int) ≤ u := by omega
    have hcons : ∀ x : UInt8, AV.int .u8 x.toNat :: bav l = bav (x :: l) := fun _ => rfl
    refine ⟨.norm, _, by
      simp [AV.cells?, AV.isCell, evElems, dLoop, cutC, bodyOf, Tryz.f22, h0, h1, h3, e3, bq52, e1, e2, -Int.natCast_emod, -Int.natCast_ediv, w1, w2, w3, iq52, iq5, sq54, z5, c5, a5, appB _ l tok _ hl]
      rfl, .inl ⟨rfl, (dg (u / 10)).length, ?_, u / 10, dig (u % 10) :: l, apTok (bav l) ⟨S0.H, S0.T ++ ex⟩, ex ++ apEx (bav l), ?_, ?_, ?_, ?_, ?_, rfl, ?_⟩⟩
    · rw [h5, dg_ge hu]; simp
    · simp [upd, h0]
    · simp [upd]
    · omega
    · simp [upd, hcons]
    · rw [← h4, dg_ge hu]; simp
    · simp

theorem fin_strT (s : List UInt8) (S : St) (ex : List Nat) : finish S (.str s) ⟨S.H, S.T ++ ex⟩ = some (.str s, S) := by
  unfold finish
  simp [AV.sealed, AV.strip, AV.low, boxEqL_refl]

theorem ev_dec (n : Nat) (hn : 30 ≤ n) (a : Int) (ha : in64 a) (S : St) : ev Tryz.prog E (n + 1) 22 [.int .i64 a] S = some (.ret (.str (dec a)), S) := by
  have hs := ev_size (n - 1) a S ha
  rw [show n - 1 + 1 = n by omega] at hs
  have ha' := ha
  unfold in64 at ha'
  have key : ∀ fs, DI a S (dg a.natAbs).length fs → ∃ r, iter n (evCode ⟨Tryz.prog, E.esc 22, n⟩ (ev Tryz.prog E n) (E.ps 22) n dLoop) fs = some r ∧ DQ a S r := fun fs h =>
    iter_meas (fun m fs h => dec_round n a ha S m fs h) (dg a.natAbs).length n fs (by have := dg_len20 (u := a.natAbs) (by omega); omega) h
  obtain ⟨r, hr, hq1, u, l, tok, ex, q0, q1, q2, q3, q4, q5⟩ := key ⟨upd 4 (.slice [] .clip) (upd 3 (.int .u64 a.natAbs) (upd 7 (.int .u64 a.natAbs) (upd 6 (.int .i64 a) (upd 2 (.str []) (argsA [.int .i64 a]))))), fun _ => (0, []), 5, S⟩
    ⟨a.natAbs, [], .clip, [], by simp [upd, argsA], by simp [upd], by omega, by simp [upd, bav], by simp, rfl, by simp⟩
  obtain ⟨o, t, b, v, S'⟩ := r
  simp at hq1 q0 q1 q3 q5
  subst hq1 q5
  have hl : l.length ≤ 1000 := by
    have := congrArg List.length q4
    have h7 := dg_len20 (u := a.natAbs) (by omega)
    simp at this
    omega
  have w1 : IntKind.u64.wrap (48 + (u : Int)) = (48 + u : Int) := wrapu64 _ (by omega)
  have w2 : IntKind.u8.wrap (48 + (u : Int)) = ((dig u).toNat : Int) := by
    rw [wrapu8 _ (by omega), dig_nat (by omega)]; omega
  have hbb : bytesOf (.int .u8 (dig u).toNat :: bav l) = some (dig u :: l) := bav_bytes (dig u :: l)
  have hf := fin_strT (dec a) S (ex ++ apEx (bav l))
  rw [ev_enter (n := n) (show E.ok 22 = true from rfl) Tryz.func22 f30b (Nat.le_of_ble_eq_true rfl) (by decide +kernel)]
  have hlen : (dg a.natAbs).length ≤ 20 := dg_len20 (by omega)
  by_cases h : a < 0
  · have hd : dec a = 45 :: dg a.natAbs := by simp [dec, h]
    rw [hd] at hf
    simp [AV.cells?, AV.isCell, evElems, d0, d1, d2, d3, cutC, bodyOf, Tryz.f22, hs, hr, q0, q1, q3, bq52, w1, w2, iq52, iq5, sq54, z5, c5, a5, appB _ l tok _ hl, sq9, hbb, q4, h, hf, hd, show (dg a.natAbs).length + 1 ≤ 4611686018427387904 by omega, show 1 + (dg a.natAbs).length ≤ 4611686018427387904 by omega]
  · have hd : dec a = dg a.natAbs := by simp [dec, h]
    rw [hd] at hf
    simp [AV.cells?, AV.isCell, evElems, d0, d1, d2, d3, cutC, bodyOf, Tryz.f22, hs, hr, q0, q1, q3, bq52, w1, w2, iq52, iq5, sq54, z5, c5, a5, appB _ l tok _ hl, sq9, hbb, q4, h, hf, hd]

/-! ### the page's -/
def RI (a : Int) (S0 : St) (m : Nat) (fs : FS) : Prop :=
  ∃ (u : Int) (l : List UInt8), fs.t 0 = .int .i64 a ∧ fs.t 4 = .int .i64 u ∧ in64 u ∧ fs.t 3 = .str l ∧ (if u = 0 then l else dg u.natAbs ++ l) = dg a.natAbs ∧ m = (if u = 0 then 0 else (dg u.natAbs).length) ∧ fs.S = S0
def RQ (a : Int) (S0 : St) (r : Out × FS) : Prop :=
  r.1 = .exit 0 ∧ r.2.t 0 = .int .i64 a ∧ r.2.t 3 = .str (dg a.natAbs) ∧ r.2.S = S0

end Go.Proofs.YtmhidempoabehaaGreatDoor.PT
/- One text just where they are alike: small parts. No condition. -/
namespace Go.Proofs.YtmhidempoabehaaGreatDoor.PT
set_option linter.unusedVariables false
set_option linter.unusedSimpArgs false
open Go AE EX
set_option maxRecDepth 100000

/-- it doesn't begin so -/
def stops (p : UInt8 → Bool) : List UInt8 → Prop
  | [] => True
  | c :: _ => p c = false
theorem span_inj (p : UInt8 → Bool) : ∀ (a b r s : List UInt8), a.all p = true → b.all p = true → stops p r → stops p s → a ++ r = b ++ s → a = b ∧ r = s
  | [], [], r, s, _, _, _, _, h => ⟨rfl, by simpa using h⟩
  | [], y :: b, r, s, _, hb, hr, _, h => by
    simp at h
    subst h
    simp [stops] at hr
    simp [hr] at hb
  | x :: a, [], r, s, ha, _, _, hs, h => by
    simp at h
    subst h
    simp [stops] at hs
    simp [hs] at ha
  | x :: a, y :: b, r, s, ha, hb, hr, hs, h => by
    simp at h ha hb
    obtain ⟨rfl, h⟩ := h
    obtain ⟨rfl, rfl⟩ := span_inj p a b r s (by simpa using ha.2) (by simpa using hb.2) hr hs h
    exact ⟨rfl, rfl⟩

def isDig (c : UInt8) : Bool := decide (48 ≤ c.toNat) && decide (c.toNat ≤ 57)
def val (l : List UInt8) : Nat := l.foldl (fun v c => v * 10 + (c.toNat - 48)) 0
theorem val_snoc (l : List UInt8) (c : UInt8) : val (l ++ [c]) = val l * 10 + (c.toNat - 48) := by simp [val]
theorem val_dg (u : Nat) : val (dg u) = u := by
  induction u using Nat.strongRecOn with
  | _ u ih =>
  by_cases h : u < 10
  · rw [dg_lt h]; simp [val, dig_nat h]
  · rw [dg_ge h, val_snoc, ih _ (by omega), dig_nat (by omega)]; omega
theorem dg_inj {u v : Nat} (h : dg u = dg v) : u = v := by rw [← val_dg u, ← val_dg v, h]
theorem dig_isDig {d : Nat} (h : d < 10) : isDig (dig d) = true := by
  unfold isDig; rw [dig_nat h]; simp; omega
theorem dg_all (u : Nat) : (dg u).all isDig = true := by
  induction u using Nat.strongRecOn with
  | _ u ih =>
  by_cases h : u < 10
  · rw [dg_lt h]; simp [dig_isDig h]
  · rw [dg_ge h, List.all_append, ih _ (by omega)]; simp [dig_isDig (show u % 10 < 10 by omega)]
theorem dec_pos {a : Int} (h : 0 ≤ a) : dec a = dg a.natAbs := by unfold dec; rw [if_neg (by omega)]
theorem dec_inj {a b : Int} (ha : 0 ≤ a) (hb : 0 ≤ b) {r s : List UInt8} (hr : stops isDig r) (hs : stops isDig s) (h : dec a ++ r = dec b ++ s) : a = b ∧ r = s := by
  rw [dec_pos ha, dec_pos hb] at h
  obtain ⟨h1, h2⟩ := span_inj isDig _ _ _ _ (dg_all _) (dg_all _) hr hs h
  have := dg_inj h1
  exact ⟨by omega, h2⟩

theorem head_tail {c : Int} (h : headB c = true) : tailB c = true := by simp [tailB, h]
theorem name_all {s : List UInt8} (h : nameB s = true) : s.all tl = true := by
  cases s with
  | nil => simp [nameB] at h
  | cons c r =>
    simp only [nameB, Bool.and_eq_true] at h
    rw [List.all_cons, h.2, Bool.and_true]
    exact head_tail h.1.2
theorem name_inj {a b r s : List UInt8} (ha : nameB a = true) (hb : nameB b = true) (hr : stops tl r) (hs : stops tl s) (h : a ++ r = b ++ s) : a = b ∧ r = s :=
  span_inj tl a b r s (name_all ha) (name_all hb) hr hs h
def notQ (c : UInt8) : Bool := c != 34
theorem plain_all {s : List UInt8} (h : plainB s = true) : s.all notQ = true := by
  simp only [plainB, Bool.and_eq_true] at h
  rw [List.all_eq_true] at h ⊢
  intro c hc
  have := h.2 c hc
  simp [badB] at this
  simp [notQ]
  intro e
  subst e
  exact this.1 rfl
theorem plain_inj {a b r s : List UInt8} (ha : plainB a = true) (hb : plainB b = true) (h : a ++ 34 :: r = b ++ 34 :: s) : a = b ∧ r = s := by
  obtain ⟨h1, h2⟩ := span_inj notQ a b (34 :: r) (34 :: s) (plain_all ha) (plain_all hb) rfl rfl h
  exact ⟨h1, by simpa using h2⟩

/-- what may stand behind an expression: nothing, or a blank, a comma, a bracket's end -/
def delim : List UInt8 → Prop
  | [] => True
  | c :: _ => c = 32 ∨ c = 41 ∨ c = 44 ∨ c = 125
theorem delim_tl {r : List UInt8} (h : delim r) : stops tl r := by
  cases r with
  | nil => trivial
  | cons c r => rcases h with rfl | rfl | rfl | rfl <;> rfl
theorem delim_dig {r : List UInt8} (h : delim r) : stops isDig r := by
  cases r with
  | nil => trivial
  | cons c r => rcases h with rfl | rfl | rfl | rfl <;> rfl
end Go.Proofs.YtmhidempoabehaaGreatDoor.PT
