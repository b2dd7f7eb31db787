/- Joined: Bulk, Shelf, IndX, MoA, MoU, StpA, MoV. No condition beyond those of its lemmas. -/
import Derived.Test.YtanhmedeolhaoaaGreatRows
import Derived.Shelf.Small.Strs
import Derived.Shelf.Strings.Search1
import Derived.Shelf.Bits.Mul64
import Derived.Test.YtanhmedeolhaoaaGreatProg
import Derived.Test.YtanhmedeolhaoaaGreatJnD
import Derived.KernelRfl
/-
  FOR A PROOF OF AN '..UptoSaid': WHAT THE BOUND GIVES. Copy it as <Name>Bulk.lean (put your seat's Name for YtanhmedeolhaoaaGreat, the bound of 'uptoSmall' for 1048576), name it in GOCLAIM.json's 'order' behind <Name>Rows. By an AI agent, Sun Nov 15 2026. No person has read it. No macro, syntax, notation, axiom, sorry.
-/
namespace Go.Proofs.YtanhmedeolhaoaaGreat.bulks

theorem one_le {H : Type} (d : DataW H) : 1 ≤ Rows.uptoBulk d := by
  cases d with
  | lit l => cases l <;> simp [Rows.uptoBulk]
  | nil => simp [Rows.uptoBulk]
  | ptr d => simp [Rows.uptoBulk]
  | slice elems spare => simp [Rows.uptoBulk]
  | agg parts => simp [Rows.uptoBulk]
  | iface t d => simp [Rows.uptoBulk]
  | map entries => simp [Rows.uptoBulk]
  | held h => simp [Rows.uptoBulk]

/-- a part's bulk is at most the whole's -/
theorem part_le {H : Type} {d : DataW H} {l : List (DataW H)} (h : d ∈ l) : Rows.uptoBulk d ≤ Rows.uptoBulkAll l := by
  induction l with
  | nil => cases h
  | cons x r ih =>
    simp only [Rows.uptoBulkAll]
    cases List.mem_cons.1 h with
    | inl e => subst e; omega
    | inr e => have := ih e; omega

theorem append {H : Type} (l r : List (DataW H)) : Rows.uptoBulkAll (l ++ r) = Rows.uptoBulkAll l + Rows.uptoBulkAll r := by
  induction l with
  | nil => simp [Rows.uptoBulkAll]
  | cons x l ih => simp only [List.cons_append, Rows.uptoBulkAll, ih]; omega

/-- so many values at the most -/
theorem length_le {H : Type} (l : List (DataW H)) : l.length ≤ Rows.uptoBulkAll l := by
  induction l with
  | nil => simp [Rows.uptoBulkAll]
  | cons x r ih => have := one_le x; simp only [Rows.uptoBulkAll, List.length_cons]; omega

/-- a slice's places, and what they hold -/
theorem slice_le {H : Type} (elems spare : List (DataW H)) : elems.length + spare.length + 1 ≤ Rows.uptoBulk (.slice elems spare) := by
  have h1 := length_le elems
  have h2 := length_le spare
  simp only [Rows.uptoBulk]
  omega
theorem slice_elems {H : Type} (elems spare : List (DataW H)) : Rows.uptoBulkAll elems + 1 ≤ Rows.uptoBulk (.slice elems spare) := by
  simp only [Rows.uptoBulk]
  omega

/-- a string's letters -/
theorem string_eq {H : Type} (bytes : List UInt8) : Rows.uptoBulk (DataW.lit (H := H) (.string bytes)) = bytes.length + 1 := by
  simp [Rows.uptoBulk]

/-- THE BOUND, as the builder hands it over ('hk') -/
theorem bound {H : Type} {l : List (DataW H)} (hk : Rows.uptoSmall H l = true) : Rows.uptoBulkAll l ≤ 1048576 := by
  simpa [Rows.uptoSmall] using hk

/-- ROOM: a slice of n elements of b bytes, grown by append: below the 2^48 bytes that append, make and a Builder bear. Here n up to 2^21, b up to 4,096: put your own numbers. -/
theorem room {n b : Nat} (hn : n ≤ 2097152) (hb : b ≤ 4096) : (n + n / 4 + 192) * b ≤ 281474976710656 := by
  have h : (n + n / 4 + 192) * b ≤ 2621632 * 4096 := Nat.mul_le_mul (by omega) hb
  omega

end Go.Proofs.YtanhmedeolhaoaaGreat.bulks
/-
  DERIVED: THE SHELF's CONTRACTS AT THIS DUMP, IN PLAIN WORDS (tools/lay-plain.mjs out of 'YtanhmedeolhaoaaGreatShelf.lean', which tools/lay-shelf.mjs wrote): THE SAME DECLARATIONS UNDER THE SAME NAMES: 'import', 'namespace', 'open', 'def', 'theorem' AND NOTHING ELSE: no command of the shelf's: FOR A HAND-IN. Each laying: the table of numbers ('.._ren') and one theorem, a field a fact of the dump's own or the kernel's comparison; each contract: ONE APPLICATION.
-/
namespace Go.Proofs.YtanhmedeolhaoaaGreat
open Go.Shelf
def SH.lays137_ren : Go.Shelf.Ren := ⟨fun | 137 => 101 | 217 => 107 | 266 => 119 | n => n, fun | 9 => 9 | 5 => 5 | 3 => 3 | n => n, fun | n => n⟩
theorem SH.lays137 : Go.Proofs.Lays.n137 Tryz.prog SH.lays137_ren := {
  mixed := by kernel_rfl
  f137 := Tryz.func101.trans (congrArg some (by kernel_rfl))
  f217 := Tryz.func107.trans (congrArg some (by kernel_rfl))
  f266 := Tryz.func119.trans (congrArg some (by kernel_rfl))
  t3 := Tryz.underlying3
  a3 := Tryz.isAgg3
  z3 := Tryz.sizeOf3
  v3 := Tryz.zeroValue3
  t5 := Tryz.underlying5
  a5 := Tryz.isAgg5
  z5 := Tryz.sizeOf5
  v5 := Tryz.zeroValue5
  t9 := Tryz.underlying9
  a9 := Tryz.isAgg9
  z9 := Tryz.sizeOf9
  v9 := Tryz.zeroValue9 }
open Go.RowKit in
/-- strings.IndexByte: "IndexByte returns the index of the first instance of c in s, or -1 if c is not present in s.": IT RETURNS 'Lib.indexByte s c'; the world is as it was. (LAID: no walk: one application.) -/
theorem SH.strings_IndexByte (s : ByteArray) (c : Int) (w : World) :
    Calls Tryz.prog 101 #[.string s, .int .u8 c] w fun e w' => e = .returned (.int .i64 (Lib.indexByte s.data.toList c.toNat.toUInt8)) ∧ w' = w := Any.strings_IndexByte SH.lays137 s c w
def SH.lays217_ren : Go.Shelf.Ren := ⟨fun | 217 => 107 | 266 => 119 | n => n, fun | 9 => 9 | 5 => 5 | 3 => 3 | n => n, fun | n => n⟩
theorem SH.lays217 : Go.Proofs.Lays.n217 Tryz.prog SH.lays217_ren := {
  mixed := by kernel_rfl
  f217 := Tryz.func107.trans (congrArg some (by kernel_rfl))
  f266 := Tryz.func119.trans (congrArg some (by kernel_rfl))
  t3 := Tryz.underlying3
  a3 := Tryz.isAgg3
  z3 := Tryz.sizeOf3
  v3 := Tryz.zeroValue3
  t5 := Tryz.underlying5
  a5 := Tryz.isAgg5
  z5 := Tryz.sizeOf5
  v5 := Tryz.zeroValue5
  t9 := Tryz.underlying9
  a9 := Tryz.isAgg9
  z9 := Tryz.sizeOf9
  v9 := Tryz.zeroValue9 }
open Go.RowKit Go.Lib in
/-- internal/stringslite.IndexByte (what strings.IndexByte calls): IT RETURNS 'Lib.indexByte s c'; the world is as it was. (LAID: no walk: one application.) -/
theorem SH.stringslite_IndexByte (s : ByteArray) (c : Int) (w : World) :
    Calls Tryz.prog 107 #[.string s, .int .u8 c] w fun e w' => e = .returned (.int .i64 (Lib.indexByte s.data.toList c.toNat.toUInt8)) ∧ w' = w := Any.stringslite_IndexByte SH.lays217 s c w
def SH.lays264_ren : Go.Shelf.Ren := ⟨fun | 264 => 94 | n => n, fun | 53 => 146 | 46 => 158 | n => n, fun | n => n⟩
theorem SH.lays264 : Go.Proofs.Lays.n264 Tryz.prog SH.lays264_ren := {
  mixed := by kernel_rfl
  f264 := Tryz.func94.trans (congrArg some (by kernel_rfl))
  t46 := Tryz.underlying158
  a46 := Tryz.isAgg158
  z46 := Tryz.sizeOf158
  v46 := Tryz.zeroValue158
  t53 := Tryz.underlying146
  a53 := Tryz.isAgg146
  z53 := Tryz.sizeOf146
  v53 := Tryz.zeroValue146 }
open Go.RowKit Go.Lib in
theorem SH.bits_Mul64 (x y : Nat) (hx : x < 18446744073709551616) (hy : y < 18446744073709551616) (w : World) :
    Calls Tryz.prog 94 #[.int .u64 x, .int .u64 y] w fun e w' => e = .returned (.tuple #[.int .u64 ((x * y / 18446744073709551616 : Nat) : Int), .int .u64 ((x * y % 18446744073709551616 : Nat) : Int)]) ∧ w' = w := Any.bits_Mul64 SH.lays264 x y hx hy w
end Go.Proofs.YtanhmedeolhaoaaGreat
/- strings.IndexByte and bits.Mul64 by their contracts: as the evaluator takes them. No condition. -/
namespace Go.Proofs.YtanhmedeolhaoaaGreat.AE
set_option linter.unusedVariables false
set_option linter.unusedSimpArgs false
open Go Go.RowKit

def indexX (args : List AV) (S : St) : Option (Res × St) :=
  match args with
  | [.str s, .int .u8 c] => some (.ret (.int .i64 (Lib.indexByte s c.toNat.toUInt8)), S)
  | _ => none
def mulX (args : List AV) (S : St) : Option (Res × St) :=
  match args with
  | [.int .u64 x, .int .u64 y] => if 0 ≤ x ∧ x < 18446744073709551616 ∧ 0 ≤ y ∧ y < 18446744073709551616 then
      some (.ret (.tup [.int .u64 ((x.toNat * y.toNat / 18446744073709551616 : Nat) : Int), .int .u64 ((x.toNat * y.toNat % 18446744073709551616 : Nat) : Int)]), S) else none
  | _ => none

theorem indexX_ok {args : List AV} {S S' : St} {r : Res} (h : indexX args S = some (r, S')) :
    (∃ fn, Tryz.prog.funcs[101]? = some fn ∧ (fn.name == "runtime.NumGoroutine") = false ∧ fn.body.isSome = true) ∧
    ∀ (w0 : World) (B : Nat) (G : Gh) (w : World) (vs : Array Value), Inv w0 B G S w → VRL G args vs.toList →
      Calls Tryz.prog 101 vs w fun e w' => ∃ G', Inv w0 B G' S' w' ∧ Ext G w G' w' ∧ G'.nu = G.nu ∧ ResR G' r e := by
  refine ⟨⟨_, Tryz.func101, by decide +kernel, by decide +kernel⟩, fun w0 B G w vs hi hv => ?_⟩
  unfold indexX at h
  split at h
  · rename_i s c
    cases h
    obtain ⟨a⟩ := vs
    simp only at hv
    cases hv with
    | cons _ v0 _ m h0 hm =>
      cases hm with
      | cons _ v1 _ m h1 hm =>
        cases hm
        obtain ⟨p, rfl, rfl⟩ := h0.inv_str
        cases h1
        refine (SH.strings_IndexByte p c w).mono fun e w' ⟨he, hw⟩ => ?_
        subst he; subst hw
        exact ⟨G, hi, .refl G _, rfl, VR.int _ _⟩
  · cases h

theorem mulX_ok {args : List AV} {S S' : St} {r : Res} (h : mulX args S = some (r, S')) :
    (∃ fn, Tryz.prog.funcs[94]? = some fn ∧ (fn.name == "runtime.NumGoroutine") = false ∧ fn.body.isSome = true) ∧
    ∀ (w0 : World) (B : Nat) (G : Gh) (w : World) (vs : Array Value), Inv w0 B G S w → VRL G args vs.toList →
      Calls Tryz.prog 94 vs w fun e w' => ∃ G', Inv w0 B G' S' w' ∧ Ext G w G' w' ∧ G'.nu = G.nu ∧ ResR G' r e := by
  refine ⟨⟨_, Tryz.func94, by decide +kernel, by decide +kernel⟩, fun w0 B G w vs hi hv => ?_⟩
  unfold mulX at h
  split at h
  · rename_i x y
    split at h
    · rename_i hc
      obtain ⟨c1, c2, c3, c4⟩ := hc
      cases h
      obtain ⟨a⟩ := vs
      simp only at hv
      cases hv with
      | cons _ v0 _ m h0 hm =>
        cases hm with
        | cons _ v1 _ m h1 hm =>
          cases hm
          cases h0
          cases h1
          obtain ⟨u, rfl⟩ : ∃ u : Nat, x = u := ⟨x.toNat, by omega⟩
          obtain ⟨v, rfl⟩ : ∃ v : Nat, y = v := ⟨y.toNat, by omega⟩
          refine (SH.bits_Mul64 u v (by omega) (by omega) w).mono fun e w' ⟨he, hw⟩ => ?_
          subst he; subst hw
          exact ⟨G, hi, .refl G _, rfl, VR.tup _ _ (by simpa using VRL.cons _ _ _ _ (VR.int _ _) (.cons _ _ _ _ (VR.int _ _) .nil))⟩
    · cases h
  · cases h
end Go.Proofs.YtanhmedeolhaoaaGreat.AE
/- The environment of layers 16 to 18: which functions are followed. No condition. -/
namespace Go.Proofs.YtanhmedeolhaoaaGreat.PT
set_option linter.unusedVariables false
set_option linter.unusedSimpArgs false
open Go AE
set_option maxRecDepth 100000
/-- the functions that are followed -/
def okL : List Nat := [3, 4, 5, 6, 7, 8, 9, 10, 11, 12, 13, 14, 15, 16, 17, 18, 19, 20, 21, 22, 23, 24, 25, 26, 27, 28, 29, 30, 31, 32, 33, 34, 35, 36, 37, 38, 39, 40, 41, 42, 43, 44, 45, 46, 47, 48, 49, 50, 51, 52, 53, 54, 55, 56, 57, 58, 59, 60, 61, 62, 63, 64, 65, 66, 67, 68, 69, 70, 71, 72, 73, 74, 75, 76, 77, 78, 79, 80, 81, 82, 83, 84, 85, 86, 87, 88, 89, 90, 91, 92, 93, 95, 96, 97, 98, 99, 100, 102, 103, 104, 106, 108, 109, 110, 111, 112, 113, 114, 115, 116, 120, 121, 122, 123, 124, 125]
@[simp] def isEsc (f : Nat) : Bool := f == 3 || f == 5 || f == 6 || f == 10 || f == 11 || f == 16 || f == 17 || f == 19 || f == 28 || f == 29 || f == 30 || f == 34 || f == 35 || f == 36 || f == 55 || f == 65 || f == 100
noncomputable def E : Env where
  ok := fun f => okL.contains f
  esc := fun f d => (f == 3 && d == 12) || (f == 5 && (d == 6 || d == 7)) || (f == 6 && d == 11) || (f == 10 && d == 16) || (f == 11 && d == 10) || (f == 16 && (d == 10 || d == 15 || d == 21)) || (f == 17 && d == 3) || (f == 19 && (d == 8 || d == 22)) || (f == 28 && d == 18) || (f == 29 && d == 18) || (f == 30 && d == 3) || (f == 34 && d == 9) || (f == 35 && d == 9) || (f == 36 && d == 6) || (f == 55 && d == 8) || (f == 65 && d == 20) || (f == 100 && d == 7)
  ps := fun f id => if f = 3 ∧ id = 5 then [(1, 2), (1, 8), (2, 8), (3, 8), (4, 8)] else if f = 3 ∧ id = 6 then [(1, 2), (1, 8), (2, 8), (3, 8), (4, 8)] else if f = 5 ∧ id = 4 then [(4, 6)] else if f = 5 ∧ id = 6 then [(1, 6)] else if f = 6 ∧ id = 5 then [(3, 5)] else if f = 6 ∧ id = 7 then [(3, 5), (3, 7), (5, 7)] else if f = 10 ∧ id = 3 then [(3, 8), (4, 8)] else if f = 13 ∧ id = 2 then [(2, 3)] else if f = 14 ∧ id = 3 then [(0, 4), (0, 6), (0, 8), (4, 8), (6, 8), (7, 8)] else if f = 14 ∧ id = 6 then [(0, 2), (0, 3), (2, 3), (0, 7), (2, 7), (3, 7), (0, 9), (2, 9), (3, 9), (0, 10), (2, 10)] else if f = 15 ∧ id = 6 then [(3, 7)] else if f = 16 ∧ id = 1 then [(3, 8), (4, 8), (3, 14), (4, 14), (8, 14), (9, 14)] else if f = 17 ∧ id = 6 then [(1, 3)] else if f = 17 ∧ id = 8 then [(3, 8), (4, 8), (3, 13), (4, 13), (8, 13), (9, 13)] else if f = 19 ∧ id = 5 then [(4, 5), (4, 6)] else if f = 22 ∧ id = 17 then [(3, 6), (3, 9), (6, 9), (3, 14), (6, 14), (3, 16), (6, 16), (14, 16)] else if f = 23 ∧ id = 15 then [(3, 6)] else if f = 23 ∧ id = 17 then [(3, 6)] else if f = 24 ∧ id = 5 then [(4, 5), (4, 6), (5, 6)] else if f = 24 ∧ id = 17 then [(0, 2), (1, 2)] else if f = 24 ∧ id = 23 then [(3, 6)] else if f = 33 ∧ id = 3 then [(1, 4), (2, 4)] else if f = 42 ∧ id = 4 then [(6, 10)] else if f = 50 ∧ id = 1 then [(1, 3), (1, 6), (3, 6), (4, 6), (1, 8), (3, 8), (4, 8), (6, 8), (1, 11), (3, 11), (4, 11), (6, 11), (8, 11), (9, 11), (1, 13), (3, 13), (4, 13), (6, 13), (8, 13), (9, 13), (11, 13), (1, 16), (3, 16), (4, 16), (6, 16), (8, 16), (9, 16), (11, 16), (13, 16), (14, 16), (1, 18), (3, 18), (4, 18), (6, 18), (8, 18), (9, 18), (11, 18), (13, 18), (14, 18), (16, 18)] else if f = 57 ∧ id = 1 then [(1, 4), (1, 7), (4, 7), (1, 10), (4, 10), (7, 10)] else if f = 58 ∧ id = 4 then [(13, 19)] else if f = 65 ∧ id = 6 then [(3, 7), (3, 11), (7, 11)] else if f = 67 ∧ id = 3 then [(6, 10)] else if f = 69 ∧ id = 2 then [(3, 7), (3, 11), (7, 11)] else if f = 87 ∧ id = 6 then [(3, 8)] else if f = 87 ∧ id = 11 then [(3, 8)] else if f = 92 ∧ id = 3 then [(3, 7)] else if f = 104 ∧ id = 17 then [(7, 11)] else if f = 108 ∧ id = 4 then [(7, 12)] else if f = 108 ∧ id = 6 then [(9, 13)] else if f = 109 ∧ id = 10 then [(11, 15)] else if f = 110 ∧ id = 10 then [(11, 15)] else if f = 112 ∧ id = 3 then [(7, 11)] else if f = 113 ∧ id = 5 then [(7, 12)] else if f = 113 ∧ id = 11 then [(9, 13)] else if f = 113 ∧ id = 16 then [(3, 8)] else if f = 113 ∧ id = 17 then [(9, 13)] else if f = 113 ∧ id = 22 then [(3, 8)] else if f = 113 ∧ id = 23 then [(9, 13)] else if f = 115 ∧ id = 1 then [(7, 11)] else if f = 115 ∧ id = 3 then [(7, 11)] else if f = 115 ∧ id = 5 then [(7, 11)] else if f = 115 ∧ id = 8 then [(7, 11)] else if f = 116 ∧ id = 1 then [(7, 11)] else if f = 116 ∧ id = 3 then [(7, 11)] else if f = 116 ∧ id = 5 then [(7, 11)] else if f = 116 ∧ id = 8 then [(7, 11)] else if f = 116 ∧ id = 10 then [(7, 11)] else if f = 116 ∧ id = 13 then [(7, 11)] else if f = 116 ∧ id = 15 then [(7, 11)] else if f = 116 ∧ id = 18 then [(7, 11)] else if f = 116 ∧ id = 21 then [(7, 11)] else if f = 120 ∧ id = 3 then [(10, 17)] else if f = 120 ∧ id = 5 then [(5, 11)] else if f = 120 ∧ id = 6 then [(13, 19)] else if f = 122 ∧ id = 1 then [(2, 5)] else if f = 122 ∧ id = 2 then [(2, 5)] else if f = 122 ∧ id = 3 then [(2, 5)] else if f = 125 ∧ id = 1 then [(3, 7)] else []
  ext := fun f args S => if f = 101 then indexX args S else if f = 94 then mulX args S else none
  dfr := fun f => f == 5

theorem E_esc (f d : Nat) (h : isEsc f = false) : E.esc f d = false := by
  simp [isEsc] at h
  simp [E, h]
@[simp] theorem ps3_5 : E.ps 3 5 = [(1, 2), (1, 8), (2, 8), (3, 8), (4, 8)] := rfl
@[simp] theorem ps3_6 : E.ps 3 6 = [(1, 2), (1, 8), (2, 8), (3, 8), (4, 8)] := rfl
@[simp] theorem ps5_4 : E.ps 5 4 = [(4, 6)] := rfl
@[simp] theorem ps5_6 : E.ps 5 6 = [(1, 6)] := rfl
@[simp] theorem ps6_5 : E.ps 6 5 = [(3, 5)] := rfl
@[simp] theorem ps6_7 : E.ps 6 7 = [(3, 5), (3, 7), (5, 7)] := rfl
@[simp] theorem ps10_3 : E.ps 10 3 = [(3, 8), (4, 8)] := rfl
@[simp] theorem ps13_2 : E.ps 13 2 = [(2, 3)] := rfl
@[simp] theorem ps14_3 : E.ps 14 3 = [(0, 4), (0, 6), (0, 8), (4, 8), (6, 8), (7, 8)] := rfl
@[simp] theorem ps14_6 : E.ps 14 6 = [(0, 2), (0, 3), (2, 3), (0, 7), (2, 7), (3, 7), (0, 9), (2, 9), (3, 9), (0, 10), (2, 10)] := rfl
@[simp] theorem ps15_6 : E.ps 15 6 = [(3, 7)] := rfl
@[simp] theorem ps16_1 : E.ps 16 1 = [(3, 8), (4, 8), (3, 14), (4, 14), (8, 14), (9, 14)] := rfl
@[simp] theorem ps17_6 : E.ps 17 6 = [(1, 3)] := rfl
@[simp] theorem ps17_8 : E.ps 17 8 = [(3, 8), (4, 8), (3, 13), (4, 13), (8, 13), (9, 13)] := rfl
@[simp] theorem ps19_5 : E.ps 19 5 = [(4, 5), (4, 6)] := rfl
@[simp] theorem ps22_17 : E.ps 22 17 = [(3, 6), (3, 9), (6, 9), (3, 14), (6, 14), (3, 16), (6, 16), (14, 16)] := rfl
@[simp] theorem ps23_15 : E.ps 23 15 = [(3, 6)] := rfl
@[simp] theorem ps23_17 : E.ps 23 17 = [(3, 6)] := rfl
@[simp] theorem ps24_5 : E.ps 24 5 = [(4, 5), (4, 6), (5, 6)] := rfl
@[simp] theorem ps24_17 : E.ps 24 17 = [(0, 2), (1, 2)] := rfl
@[simp] theorem ps24_23 : E.ps 24 23 = [(3, 6)] := rfl
@[simp] theorem ps33_3 : E.ps 33 3 = [(1, 4), (2, 4)] := rfl
@[simp] theorem ps42_4 : E.ps 42 4 = [(6, 10)] := rfl
@[simp] theorem ps42_6 : E.ps 42 6 = [] := rfl
@[simp] theorem ps50_1 : E.ps 50 1 = [(1, 3), (1, 6), (3, 6), (4, 6), (1, 8), (3, 8), (4, 8), (6, 8), (1, 11), (3, 11), (4, 11), (6, 11), (8, 11), (9, 11), (1, 13), (3, 13), (4, 13), (6, 13), (8, 13), (9, 13), (11, 13), (1, 16), (3, 16), (4, 16), (6, 16), (8, 16), (9, 16), (11, 16), (13, 16), (14, 16), (1, 18), (3, 18), (4, 18), (6, 18), (8, 18), (9, 18), (11, 18), (13, 18), (14, 18), (16, 18)] := rfl
@[simp] theorem ps57_1 : E.ps 57 1 = [(1, 4), (1, 7), (4, 7), (1, 10), (4, 10), (7, 10)] := rfl
@[simp] theorem ps58_4 : E.ps 58 4 = [(13, 19)] := rfl
@[simp] theorem ps65_6 : E.ps 65 6 = [(3, 7), (3, 11), (7, 11)] := rfl
@[simp] theorem ps67_3 : E.ps 67 3 = [(6, 10)] := rfl
@[simp] theorem ps68_1 : E.ps 68 1 = [] := rfl
@[simp] theorem ps69_2 : E.ps 69 2 = [(3, 7), (3, 11), (7, 11)] := rfl
@[simp] theorem ps87_6 : E.ps 87 6 = [(3, 8)] := rfl
@[simp] theorem ps87_11 : E.ps 87 11 = [(3, 8)] := rfl
@[simp] theorem ps91_5 : E.ps 91 5 = [] := rfl
@[simp] theorem ps92_3 : E.ps 92 3 = [(3, 7)] := rfl
@[simp] theorem ps104_17 : E.ps 104 17 = [(7, 11)] := rfl
@[simp] theorem ps108_4 : E.ps 108 4 = [(7, 12)] := rfl
@[simp] theorem ps108_6 : E.ps 108 6 = [(9, 13)] := rfl
@[simp] theorem ps109_10 : E.ps 109 10 = [(11, 15)] := rfl
@[simp] theorem ps110_10 : E.ps 110 10 = [(11, 15)] := rfl
@[simp] theorem ps112_3 : E.ps 112 3 = [(7, 11)] := rfl
@[simp] theorem ps113_5 : E.ps 113 5 = [(7, 12)] := rfl
@[simp] theorem ps113_11 : E.ps 113 11 = [(9, 13)] := rfl
@[simp] theorem ps113_16 : E.ps 113 16 = [(3, 8)] := rfl
@[simp] theorem ps113_17 : E.ps 113 17 = [(9, 13)] := rfl
@[simp] theorem ps113_22 : E.ps 113 22 = [(3, 8)] := rfl
@[simp] theorem ps113_23 : E.ps 113 23 = [(9, 13)] := rfl
@[simp] theorem ps115_1 : E.ps 115 1 = [(7, 11)] := rfl
@[simp] theorem ps115_3 : E.ps 115 3 = [(7, 11)] := rfl
@[simp] theorem ps115_5 : E.ps 115 5 = [(7, 11)] := rfl
@[simp] theorem ps115_8 : E.ps 115 8 = [(7, 11)] := rfl
@[simp] theorem ps116_1 : E.ps 116 1 = [(7, 11)] := rfl
@[simp] theorem ps116_3 : E.ps 116 3 = [(7, 11)] := rfl
@[simp] theorem ps116_5 : E.ps 116 5 = [(7, 11)] := rfl
@[simp] theorem ps116_8 : E.ps 116 8 = [(7, 11)] := rfl
@[simp] theorem ps116_10 : E.ps 116 10 = [(7, 11)] := rfl
@[simp] theorem ps116_13 : E.ps 116 13 = [(7, 11)] := rfl
@[simp] theorem ps116_15 : E.ps 116 15 = [(7, 11)] := rfl
@[simp] theorem ps116_18 : E.ps 116 18 = [(7, 11)] := rfl
@[simp] theorem ps116_21 : E.ps 116 21 = [(7, 11)] := rfl
@[simp] theorem ps120_3 : E.ps 120 3 = [(10, 17)] := rfl
@[simp] theorem ps120_5 : E.ps 120 5 = [(5, 11)] := rfl
@[simp] theorem ps120_6 : E.ps 120 6 = [(13, 19)] := rfl
@[simp] theorem ps122_1 : E.ps 122 1 = [(2, 5)] := rfl
@[simp] theorem ps122_2 : E.ps 122 2 = [(2, 5)] := rfl
@[simp] theorem ps122_3 : E.ps 122 3 = [(2, 5)] := rfl
@[simp] theorem ps125_1 : E.ps 125 1 = [(3, 7)] := rfl

end Go.Proofs.YtanhmedeolhaoaaGreat.PT
/- MonitorNobody, evaluated: whatever the step is. No condition. -/
namespace Go.Proofs.YtanhmedeolhaoaaGreat.PT
set_option linter.unusedVariables false
set_option linter.unusedSimpArgs false
open Go AE
set_option maxRecDepth 100000
/-- a step -/
def stepAV (at' : Int) (act sub obj ent nm : List UInt8) (k n : Int) (s : List UInt8) (l : List AV) : AV :=
  .agg [.int .i64 at', .str act, .str sub, .str obj, .str ent, .str nm, .int .i64 k, .int .i64 n, .str s, .slice l .non]
theorem ev_Nobody (at' : Int) (act sub obj ent nm : List UInt8) (k n : Int) (s : List UInt8) (l : List AV) :
    ev Tryz.prog E 3000000 3 [stepAV at' act sub obj ent nm k n s l] st0 = some (.ret (.bool true), st0) := by kernel_rfl
end Go.Proofs.YtanhmedeolhaoaaGreat.PT
/- Values and steps: what an input of them reads as. No condition. -/
namespace Go.Proofs.YtanhmedeolhaoaaGreat.EX
set_option linter.unusedVariables false
set_option linter.unusedSimpArgs false
open Go AE
open Go.ChangeShapes Go.WideShapes Go.RowKit
set_option maxRecDepth 100000

theorem vc23 : Tryz.prog.cellsOf 24 = 4 := by kernel_rfl
theorem vcstep : Tryz.prog.cellsOf 26 = 10 := by kernel_rfl
theorem vcint : Tryz.prog.cellsOf 3 = 1 := by kernel_rfl
theorem vci64 : Tryz.prog.cellsOf 2 = 1 := by kernel_rfl
theorem vcstr : Tryz.prog.cellsOf 9 = 1 := by kernel_rfl
theorem vctxt : Tryz.prog.cellsOf 22 = 1 := by kernel_rfl
theorem vuint : Tryz.prog.underlying 3 = some (.int .i64) := Tryz.underlying3
theorem vui64 : Tryz.prog.underlying 2 = some (.int .i64) := Tryz.underlying2
theorem vustr : Tryz.prog.underlying 9 = some .string := Tryz.underlying9
theorem vutxt : Tryz.prog.underlying 22 = some (.slice 9) := Tryz.underlying22

/-- a value -/
structure V where
  k : Int
  n : Int
  s : List UInt8
  l : List (List UInt8)
def V.cells (v : V) : List AV := [.int .i64 v.k, .int .i64 v.n, .str v.s, .slice (v.l.map .str) .non]
theorem read_text {H : Type} {enc : TypeId × Value → H} {W : World} {held : Bool} {n : Nat} {cs : List Value} {y : DataW H × List MemPlace} (h : DataW.trod enc Tryz.prog W 0 (fun _ => true) held n 9 cs = some y) :
    ∃ s : List UInt8, VRL (gh0 W) [.str s] cs := by
  obtain ⟨nm, rfl, rfl, _⟩ := DataW.trod_string vustr h
  exact ⟨nm.data.toList, .cons _ _ _ _ (.str _) .nil⟩
theorem read_value {H : Type} {enc : TypeId × Value → H} {W : World} {held : Bool} (fuel : Nat) (cs : List Value) (x : DataW H × List MemPlace) (h : DataW.trod enc Tryz.prog W 0 (fun _ => true) held fuel 24 cs = some x) :
    ∃ v : V, VRL (gh0 W) v.cells cs := by
  obtain ⟨xs, n, hf, rfl, hl, hxl, hfs⟩ := DataW.trod_struct Tryz.underlying24 h
  rw [vc23] at hl
  match cs, hl with
  | [v0, v1, v2, v3], _ =>
  match xs, hxl with
  | [x0, x1, x2, x3], _ =>
  have g0 : DataW.trod enc Tryz.prog W 0 (fun _ => true) held n 3 [v0] = some x0 := by simpa [vcint] using hfs 0 _ rfl
  have g1 : DataW.trod enc Tryz.prog W 0 (fun _ => true) held n 2 [v1] = some x1 := by simpa [vci64] using hfs 1 _ rfl
  have g2 : DataW.trod enc Tryz.prog W 0 (fun _ => true) held n 9 [v2] = some x2 := by simpa [vcstr] using hfs 2 _ rfl
  have g3 : DataW.trod enc Tryz.prog W 0 (fun _ => true) held n 22 [v3] = some x3 := by simpa [vctxt] using hfs 3 _ rfl
  obtain ⟨k, e0, rfl, w0⟩ := DataW.trod_int vuint g0
  obtain ⟨a, e2, rfl, w2⟩ := DataW.trod_int vui64 g1
  obtain ⟨s, e1, rfl, w1⟩ := DataW.trod_string vustr g2
  obtain ⟨l, hv, _⟩ := slice_open (α := List UInt8) (emb := .str) (cl := fun s => [.str s]) (Q := fun _ _ => True) (sz := 1) (by omega) vutxt vcstr (fun s => ⟨rfl, rfl⟩) g3 fun n' cs y _ hy => (read_text hy).imp fun s hs => ⟨hs, trivial⟩
  cases e0; cases e1; cases e2
  cases hv with
  | cons _ _ _ _ hv _ =>
  exact ⟨⟨k, a, s.data.toList, l⟩, .cons _ _ _ _ (.int _ _) (.cons _ _ _ _ (.int _ _) (.cons _ _ _ _ (.str _) (.cons _ _ _ _ hv .nil)))⟩

/-- a step -/
structure Sp where
  a : Int
  act : List UInt8
  sub : List UInt8
  obj : List UInt8
  ent : List UInt8
  nm : List UInt8
  v : V
def Sp.cells (x : Sp) : List AV := [.int .i64 x.a, .str x.act, .str x.sub, .str x.obj, .str x.ent, .str x.nm] ++ x.v.cells
theorem read_step {H : Type} {enc : TypeId × Value → H} {W : World} {held : Bool} (fuel : Nat) (cs : List Value) (x : DataW H × List MemPlace) (h : DataW.trod enc Tryz.prog W 0 (fun _ => true) held fuel 26 cs = some x) :
    ∃ v : Sp, VRL (gh0 W) v.cells cs := by
  obtain ⟨xs, n, hf, rfl, hl, hxl, hfs⟩ := DataW.trod_struct Tryz.underlying26 h
  rw [vcstep] at hl
  match cs, hl with
  | [v0, v1, v2, v3, v4, v5, v6, v7, v8, v9], _ =>
  match xs, hxl with
  | [x0, x1, x2, x3, x4, x5, x6], _ =>
  have g0 : DataW.trod enc Tryz.prog W 0 (fun _ => true) held n 2 [v0] = some x0 := by simpa [vci64] using hfs 0 _ rfl
  have g1 : DataW.trod enc Tryz.prog W 0 (fun _ => true) held n 9 [v1] = some x1 := by simpa [vcstr] using hfs 1 _ rfl
  have g2 : DataW.trod enc Tryz.prog W 0 (fun _ => true) held n 9 [v2] = some x2 := by simpa [vcstr] using hfs 2 _ rfl
  have g3 : DataW.trod enc Tryz.prog W 0 (fun _ => true) held n 9 [v3] = some x3 := by simpa [vcstr] using hfs 3 _ rfl
  have g4 : DataW.trod enc Tryz.prog W 0 (fun _ => true) held n 9 [v4] = some x4 := by simpa [vcstr] using hfs 4 _ rfl
  have g5 : DataW.trod enc Tryz.prog W 0 (fun _ => true) held n 9 [v5] = some x5 := by simpa [vcstr] using hfs 5 _ rfl
  have g6 : DataW.trod enc Tryz.prog W 0 (fun _ => true) held n 24 [v6, v7, v8, v9] = some x6 := by simpa [vc23] using hfs 6 _ rfl
  obtain ⟨a, e0, rfl, _⟩ := DataW.trod_int vui64 g0
  obtain ⟨s1, e1, rfl, _⟩ := DataW.trod_string vustr g1
  obtain ⟨s2, e2, rfl, _⟩ := DataW.trod_string vustr g2
  obtain ⟨s3, e3, rfl, _⟩ := DataW.trod_string vustr g3
  obtain ⟨s4, e4, rfl, _⟩ := DataW.trod_string vustr g4
  obtain ⟨s5, e5, rfl, _⟩ := DataW.trod_string vustr g5
  obtain ⟨v, hv⟩ := read_value n _ _ g6
  cases e0; cases e1; cases e2; cases e3; cases e4; cases e5
  exact ⟨⟨a, s1.data.toList, s2.data.toList, s3.data.toList, s4.data.toList, s5.data.toList, v⟩, .cons _ _ _ _ (.int _ _) (.cons _ _ _ _ (.str _) (.cons _ _ _ _ (.str _) (.cons _ _ _ _ (.str _) (.cons _ _ _ _ (.str _) (.cons _ _ _ _ (.str _) hv)))))⟩
/-- an argument of a step's type -/
theorem open_step {H : Type} {enc : TypeId × Value → H} {W : World} {base : Nat} {held : Bool} {v : Value} {d : DataW H} {ps : List MemPlace} (hval : Value.okWide Tryz.prog W .any base 26 v) (h : DataW.Trod enc Tryz.prog W 0 (fun _ => true) held 26 v d ps) :
    ∃ e : Sp, VR (gh0 W) (.agg e.cells) v := by
  simp only [Value.okWide, Tryz.underlying26] at hval
  obtain ⟨cs, rfl, _, _⟩ := hval
  obtain ⟨fuel, h⟩ := h
  obtain ⟨e, h1⟩ := read_step fuel _ _ h
  exact ⟨e, .agg _ _ h1⟩
end Go.Proofs.YtanhmedeolhaoaaGreat.EX
/- The environment of layers 16 to 18 is sound. No condition. -/
namespace Go.Proofs.YtanhmedeolhaoaaGreat.PT
set_option linter.unusedVariables false
set_option linter.unusedSimpArgs false
open Go AE
set_option maxRecDepth 100000
theorem env : EnvOK Tryz.prog E where
  mixed := by kernel_rfl
  code := fun f fn c hok hf hb => by
    have : f ∈ okL := by simpa [E] using hok
    simp only [okL, List.mem_cons, List.not_mem_nil, or_false] at this
    rcases this with rfl | rfl | rfl | rfl | rfl | rfl | rfl | rfl | rfl | rfl | rfl | rfl | rfl | rfl | rfl | rfl | rfl | rfl | rfl | rfl | rfl | rfl | rfl | rfl | rfl | rfl | rfl | rfl | rfl | rfl | rfl | rfl | rfl | rfl | rfl | rfl | rfl | rfl | rfl | rfl | rfl | rfl | rfl | rfl | rfl | rfl | rfl | rfl | rfl | rfl | rfl | rfl | rfl | rfl | rfl | rfl | rfl | rfl | rfl | rfl | rfl | rfl | rfl | rfl | rfl | rfl | rfl | rfl | rfl | rfl | rfl | rfl | rfl | rfl | rfl | rfl | rfl | rfl | rfl | rfl | rfl | rfl | rfl | rfl | rfl | rfl | rfl | rfl | rfl | rfl | rfl | rfl | rfl | rfl | rfl | rfl | rfl | rfl | rfl | rfl | rfl | rfl | rfl | rfl | rfl | rfl | rfl | rfl | rfl | rfl | rfl | rfl | rfl | rfl | rfl | rfl
    · exact codeOk_body (Tryz.func3.symm.trans hf) hb (by kernel_rfl)
    · exact codeOk_body (Tryz.func4.symm.trans hf) hb (by kernel_rfl)
    · exact codeOk_body (Tryz.func5.symm.trans hf) hb (by kernel_rfl)
    · exact codeOk_body (Tryz.func6.symm.trans hf) hb (by kernel_rfl)
    · exact codeOk_body (Tryz.func7.symm.trans hf) hb (by kernel_rfl)
    · exact codeOk_body (Tryz.func8.symm.trans hf) hb (by kernel_rfl)
    · exact codeOk_body (Tryz.func9.symm.trans hf) hb (by kernel_rfl)
    · exact codeOk_body (Tryz.func10.symm.trans hf) hb (by kernel_rfl)
    · exact codeOk_body (Tryz.func11.symm.trans hf) hb (by kernel_rfl)
    · exact codeOk_body (Tryz.func12.symm.trans hf) hb (by kernel_rfl)
    · exact codeOk_body (Tryz.func13.symm.trans hf) hb (by kernel_rfl)
    · exact codeOk_body (Tryz.func14.symm.trans hf) hb (by kernel_rfl)
    · exact codeOk_body (Tryz.func15.symm.trans hf) hb (by kernel_rfl)
    · exact codeOk_body (Tryz.func16.symm.trans hf) hb (by kernel_rfl)
    · exact codeOk_body (Tryz.func17.symm.trans hf) hb (by kernel_rfl)
    · exact codeOk_body (Tryz.func18.symm.trans hf) hb (by kernel_rfl)
    · exact codeOk_body (Tryz.func19.symm.trans hf) hb (by kernel_rfl)
    · exact codeOk_body (Tryz.func20.symm.trans hf) hb (by kernel_rfl)
    · exact codeOk_body (Tryz.func21.symm.trans hf) hb (by kernel_rfl)
    · exact codeOk_body (Tryz.func22.symm.trans hf) hb (by kernel_rfl)
    · exact codeOk_body (Tryz.func23.symm.trans hf) hb (by kernel_rfl)
    · exact codeOk_body (Tryz.func24.symm.trans hf) hb (by kernel_rfl)
    · exact codeOk_body (Tryz.func25.symm.trans hf) hb (by kernel_rfl)
    · exact codeOk_body (Tryz.func26.symm.trans hf) hb (by kernel_rfl)
    · exact codeOk_body (Tryz.func27.symm.trans hf) hb (by kernel_rfl)
    · exact codeOk_body (Tryz.func28.symm.trans hf) hb (by kernel_rfl)
    · exact codeOk_body (Tryz.func29.symm.trans hf) hb (by kernel_rfl)
    · exact codeOk_body (Tryz.func30.symm.trans hf) hb (by kernel_rfl)
    · exact codeOk_body (Tryz.func31.symm.trans hf) hb (by kernel_rfl)
    · exact codeOk_body (Tryz.func32.symm.trans hf) hb (by kernel_rfl)
    · exact codeOk_body (Tryz.func33.symm.trans hf) hb (by kernel_rfl)
    · exact codeOk_body (Tryz.func34.symm.trans hf) hb (by kernel_rfl)
    · exact codeOk_body (Tryz.func35.symm.trans hf) hb (by kernel_rfl)
    · exact codeOk_body (Tryz.func36.symm.trans hf) hb (by kernel_rfl)
    · exact codeOk_body (Tryz.func37.symm.trans hf) hb (by kernel_rfl)
    · exact codeOk_body (Tryz.func38.symm.trans hf) hb (by kernel_rfl)
    · exact codeOk_body (Tryz.func39.symm.trans hf) hb (by kernel_rfl)
    · exact codeOk_body (Tryz.func40.symm.trans hf) hb (by kernel_rfl)
    · exact codeOk_body (Tryz.func41.symm.trans hf) hb (by kernel_rfl)
    · exact codeOk_body (Tryz.func42.symm.trans hf) hb (by kernel_rfl)
    · exact codeOk_body (Tryz.func43.symm.trans hf) hb (by kernel_rfl)
    · exact codeOk_body (Tryz.func44.symm.trans hf) hb (by kernel_rfl)
    · exact codeOk_body (Tryz.func45.symm.trans hf) hb (by kernel_rfl)
    · exact codeOk_body (Tryz.func46.symm.trans hf) hb (by kernel_rfl)
    · exact codeOk_body (Tryz.func47.symm.trans hf) hb (by kernel_rfl)
    · exact codeOk_body (Tryz.func48.symm.trans hf) hb (by kernel_rfl)
    · exact codeOk_body (Tryz.func49.symm.trans hf) hb (by kernel_rfl)
    · exact codeOk_body (Tryz.func50.symm.trans hf) hb (by kernel_rfl)
    · exact codeOk_body (Tryz.func51.symm.trans hf) hb (by kernel_rfl)
    · exact codeOk_body (Tryz.func52.symm.trans hf) hb (by kernel_rfl)
    · exact codeOk_body (Tryz.func53.symm.trans hf) hb (by kernel_rfl)
    · exact codeOk_body (Tryz.func54.symm.trans hf) hb (by kernel_rfl)
    · exact codeOk_body (Tryz.func55.symm.trans hf) hb (by kernel_rfl)
    · exact codeOk_body (Tryz.func56.symm.trans hf) hb (by kernel_rfl)
    · exact codeOk_body (Tryz.func57.symm.trans hf) hb (by kernel_rfl)
    · exact codeOk_body (Tryz.func58.symm.trans hf) hb (by kernel_rfl)
    · exact codeOk_body (Tryz.func59.symm.trans hf) hb (by kernel_rfl)
    · exact codeOk_body (Tryz.func60.symm.trans hf) hb (by kernel_rfl)
    · exact codeOk_body (Tryz.func61.symm.trans hf) hb (by kernel_rfl)
    · exact codeOk_body (Tryz.func62.symm.trans hf) hb (by kernel_rfl)
    · exact codeOk_body (Tryz.func63.symm.trans hf) hb (by kernel_rfl)
    · exact codeOk_body (Tryz.func64.symm.trans hf) hb (by kernel_rfl)
    · exact codeOk_body (Tryz.func65.symm.trans hf) hb (by kernel_rfl)
    · exact codeOk_body (Tryz.func66.symm.trans hf) hb (by kernel_rfl)
    · exact codeOk_body (Tryz.func67.symm.trans hf) hb (by kernel_rfl)
    · exact codeOk_body (Tryz.func68.symm.trans hf) hb (by kernel_rfl)
    · exact codeOk_body (Tryz.func69.symm.trans hf) hb (by kernel_rfl)
    · exact codeOk_body (Tryz.func70.symm.trans hf) hb (by kernel_rfl)
    · exact codeOk_body (Tryz.func71.symm.trans hf) hb (by kernel_rfl)
    · exact codeOk_body (Tryz.func72.symm.trans hf) hb (by kernel_rfl)
    · exact codeOk_body (Tryz.func73.symm.trans hf) hb (by kernel_rfl)
    · exact codeOk_body (Tryz.func74.symm.trans hf) hb (by kernel_rfl)
    · exact codeOk_body (Tryz.func75.symm.trans hf) hb (by kernel_rfl)
    · exact codeOk_body (Tryz.func76.symm.trans hf) hb (by kernel_rfl)
    · exact codeOk_body (Tryz.func77.symm.trans hf) hb (by kernel_rfl)
    · exact codeOk_body (Tryz.func78.symm.trans hf) hb (by kernel_rfl)
    · exact codeOk_body (Tryz.func79.symm.trans hf) hb (by kernel_rfl)
    · exact codeOk_body (Tryz.func80.symm.trans hf) hb (by kernel_rfl)
    · exact codeOk_body (Tryz.func81.symm.trans hf) hb (by kernel_rfl)
    · exact codeOk_body (Tryz.func82.symm.trans hf) hb (by kernel_rfl)
    · exact codeOk_body (Tryz.func83.symm.trans hf) hb (by kernel_rfl)
    · exact codeOk_body (Tryz.func84.symm.trans hf) hb (by kernel_rfl)
    · exact codeOk_body (Tryz.func85.symm.trans hf) hb (by kernel_rfl)
    · exact codeOk_body (Tryz.func86.symm.trans hf) hb (by kernel_rfl)
    · exact codeOk_body (Tryz.func87.symm.trans hf) hb (by kernel_rfl)
    · exact codeOk_body (Tryz.func88.symm.trans hf) hb (by kernel_rfl)
    · exact codeOk_body (Tryz.func89.symm.trans hf) hb (by kernel_rfl)
    · exact codeOk_body (Tryz.func90.symm.trans hf) hb (by kernel_rfl)
    · exact codeOk_body (Tryz.func91.symm.trans hf) hb (by kernel_rfl)
    · exact codeOk_body (Tryz.func92.symm.trans hf) hb (by kernel_rfl)
    · exact codeOk_body (Tryz.func93.symm.trans hf) hb (by kernel_rfl)
    · exact codeOk_body (Tryz.func95.symm.trans hf) hb (by kernel_rfl)
    · exact codeOk_body (Tryz.func96.symm.trans hf) hb (by kernel_rfl)
    · exact codeOk_body (Tryz.func97.symm.trans hf) hb (by kernel_rfl)
    · exact codeOk_body (Tryz.func98.symm.trans hf) hb (by kernel_rfl)
    · exact codeOk_body (Tryz.func99.symm.trans hf) hb (by kernel_rfl)
    · exact codeOk_body (Tryz.func100.symm.trans hf) hb (by kernel_rfl)
    · exact codeOk_body (Tryz.func102.symm.trans hf) hb (by kernel_rfl)
    · exact codeOk_body (Tryz.func103.symm.trans hf) hb (by kernel_rfl)
    · exact codeOk_body (Tryz.func104.symm.trans hf) hb (by kernel_rfl)
    · exact codeOk_body (Tryz.func106.symm.trans hf) hb (by kernel_rfl)
    · exact codeOk_body (Tryz.func108.symm.trans hf) hb (by kernel_rfl)
    · exact codeOk_body (Tryz.func109.symm.trans hf) hb (by kernel_rfl)
    · exact codeOk_body (Tryz.func110.symm.trans hf) hb (by kernel_rfl)
    · exact codeOk_body (Tryz.func111.symm.trans hf) hb (by kernel_rfl)
    · exact codeOk_body (Tryz.func112.symm.trans hf) hb (by kernel_rfl)
    · exact codeOk_body (Tryz.func113.symm.trans hf) hb (by kernel_rfl)
    · exact codeOk_body (Tryz.func114.symm.trans hf) hb (by kernel_rfl)
    · exact codeOk_body (Tryz.func115.symm.trans hf) hb (by kernel_rfl)
    · exact codeOk_body (Tryz.func116.symm.trans hf) hb (by kernel_rfl)
    · exact codeOk_body (Tryz.func120.symm.trans hf) hb (by kernel_rfl)
    · exact codeOk_body (Tryz.func121.symm.trans hf) hb (by kernel_rfl)
    · exact codeOk_body (Tryz.func122.symm.trans hf) hb (by kernel_rfl)
    · exact codeOk_body (Tryz.func123.symm.trans hf) hb (by kernel_rfl)
    · exact codeOk_body (Tryz.func124.symm.trans hf) hb (by kernel_rfl)
    · exact codeOk_body (Tryz.func125.symm.trans hf) hb (by kernel_rfl)

  ext := fun f args S r S' hok h => by
    have h' : (if f = 101 then indexX args S else if f = 94 then mulX args S else none) = some (r, S') := h
    split at h'
    · rename_i h1; subst h1; exact indexX_ok h'
    · split at h'
      · rename_i h1; subst h1; exact mulX_ok h'
      · cases h'
end Go.Proofs.YtanhmedeolhaoaaGreat.PT
