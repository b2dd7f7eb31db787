/- Joined: AeA, AeB, GlA, AeC, AeD, AeE, AeF, AeG, AeH. No condition beyond those of its lemmas. -/
import GoSem.Machine.Exec
import Derived.Attr
import Derived.Below
import Derived.Calls
import Derived.Laws.AppendOwn
import Derived.Laws.Cells
import Derived.Laws.World
import Derived.Laws.StructEq
import Derived.Laws.Strings
import Derived.Laws.Entries
import Derived.Laws.BytesString
/- The evaluator over abstract values: definitions alone. No condition: nothing is claimed here. -/
namespace Go.Proofs.YtmhidempoabehaaGreatDoor.AE
set_option linter.unusedVariables false
set_option linter.unusedSimpArgs false
open Go

/-- What is known of a slice's spare room: nothing; there is none; it is owned by token t, whose frontier stands at pos. -/
inductive Tok where
  | non | clip | own (t pos : Nat)

inductive AV where
  | junk | undef
  | bool (b : Bool) | int (k : IntKind) (n : Int) | str (s : List UInt8)
  | agg (cs : List AV) | tup (vs : List AV)
  | slice (es : List AV) (tok : Tok)
  | nilp | ref (cs : List AV) | loc (dep d ver off : Nat) | ptr (id off : Nat)
  | fn (f : FuncId) (first cap : List AV)
  | iface (t : TypeId) (v : AV) | nilif

/-- does one cell hold it? -/
def AV.isCell : AV → Bool
  | .junk => false | .undef => false | .tup _ => false | .agg _ => false | _ => true
/-- the cells that hold it, if it can be stored -/
def AV.cells? : AV → Option (List AV)
  | .junk => none | .undef => none | .tup _ => none
  | .agg cs => if cs.all AV.isCell then some cs else none
  | .bool b => some [.bool b] | .int k n => some [.int k n] | .str s => some [.str s]
  | .slice es tok => some [.slice es tok] | .nilp => some [.nilp] | .ref cs => some [.ref cs]
  | .loc a b c d => some [.loc a b c d] | .ptr a b => some [.ptr a b] | .fn f a b => some [.fn f a b]
  | .iface t v => some [.iface t v] | .nilif => some [.nilif]

def upd {α : Type} (d : Nat) (v : α) (t : Nat → α) : Nat → α := fun x => if x = d then v else t x

structure HBox where
  ty : TypeId
  cs : List AV
structure St where
  H : List HBox
  T : List Nat
/-- a frame: temporaries; the local boxes (version, cells), by the slot that made them; a count for versions; what is outside -/
structure FS where
  t : Nat → AV
  b : Nat → Nat × List AV
  c : Nat
  S : St

inductive FP where
  | non | rl (d : Nat) | wl (d : Nat) | rh | wh | ro (i : Nat) | wo (i : Nat)

inductive OR where
  | val (v : AV) (b : Nat → Nat × List AV) (S : St) (fp : FP)
  | pan (v : AV) (S : St)

inductive Res where
  | ret (v : AV) | pan (v : AV)

abbrev Cal := FuncId → List AV → St → Option (Res × St)

/-! ### questions to the program's types -/
def aggQ (P : Program) (t : TypeId) : Bool :=
  match P.underlying t with
  | some (.struct _) => true | some (.array _ _) => true | _ => false
def sliceQ (P : Program) (t : TypeId) : Option TypeId :=
  match P.underlying t with
  | some (.slice e) => some e | _ => none
def arrQ (P : Program) (t : TypeId) : Option (Nat × TypeId) :=
  match P.underlying t with
  | some (.array n e) => some (n, e) | _ => none
def intQ (P : Program) (t : TypeId) : Option IntKind :=
  match P.underlying t with
  | some (.int k) => some k | _ => none
def strQ (P : Program) (t : TypeId) : Bool :=
  match P.underlying t with
  | some .string => true | _ => false
def concQ (P : Program) (t : TypeId) : Bool :=
  match P.underlying t with
  | some (.interface _) => false | none => false | _ => true
/-- offset and cells of a field (not of one without cells) -/
def fieldQ (P : Program) (s : TypeId) (f : Nat) : Option (Nat × Nat × Bool) :=
  match P.underlying s with
  | some (.struct fs) => match fs[f]? with
    | some fd => if (P.underlying fd.type).isSome ∧ P.cellsOf fd.type ≠ 0 then some (fd.offset, P.cellsOf fd.type, aggQ P fd.type) else none
    | none => none
  | _ => none
def ofC0 : Value → AV
  | .bool b => .bool b | .int k n => .int k n | .string s => .str s.data.toList
  | .pointer none => .nilp | .slice none 0 0 => .slice [] .clip | .nilIface => .nilif
  | _ => .junk
def ofC : Value → AV
  | .agg cs => .agg (cs.toList.map ofC0)
  | v => ofC0 v
def AV.isJunk : AV → Bool
  | .junk => true | _ => false
def zeroQ (P : Program) (t : TypeId) : Option (List AV) :=
  match P.info? t with
  | some i => match i.zero with
    | some z => if (z.cells.toList.map ofC0).all (fun a => !a.isJunk) ∧ z.cells.size = i.size then some (z.cells.toList.map ofC0) else none
    | none => none
  | none => none

/-! ### what an evaluation knows of the function that it is in -/
structure Ctx where
  P : Program
  esc : Tmp → Bool
  dep : Nat

def rho (t : Nat → AV) : Operand → AV
  | .tmp x => t x
  | .const v => ofC v
  | .global _ => .junk
  | .func f => .fn f [] []

/-! ### memory -/
def rdc (agg : Bool) (sz : Nat) (cs : List AV) : Option AV :=
  if agg then (if sz ≤ cs.length then some (.agg (cs.take sz)) else none) else cs.head?
def wrc (off : Nat) (new cs : List AV) : Option (List AV) :=
  if off + new.length ≤ cs.length then some (cs.take off ++ (new ++ cs.drop (off + new.length))) else none

def knownQ (P : Program) (t : TypeId) : Bool := (P.underlying t).isSome
def evLoad (cx : Ctx) (t : TypeId) (a : AV) (fs : FS) : Option OR :=
  if knownQ cx.P t = false then none else
  match a with
  | .ref cs => match rdc (aggQ cx.P t) (cx.P.cellsOf t) cs with
    | some v => some (.val v fs.b fs.S .non) | none => none
  | .loc dep d ver off =>
    if dep = cx.dep ∧ (fs.b d).1 = ver ∧ ver ≠ 0 then
      match rdc (aggQ cx.P t) (cx.P.cellsOf t) ((fs.b d).2.drop off) with
      | some v => some (.val v fs.b fs.S (.rl d)) | none => none
    else none
  | .ptr id off => match fs.S.H[id]? with
    | some bx => match rdc (aggQ cx.P t) (cx.P.cellsOf t) (bx.cs.drop off) with
      | some v => some (.val v fs.b fs.S (.ro id)) | none => none
    | none => none
  | _ => none

mutual
/-- no address of a local box inside -/
def AV.sealed : AV → Bool
  | .loc .. => false
  | .agg cs => AV.sealedL cs | .tup cs => AV.sealedL cs | .slice cs _ => AV.sealedL cs | .ref cs => AV.sealedL cs
  | .fn _ a b => AV.sealedL a && AV.sealedL b
  | .iface _ v => v.sealed
  | _ => true
def AV.sealedL : List AV → Bool
  | [] => true
  | a :: l => a.sealed && AV.sealedL l
end

def evStore (cx : Ctx) (t : TypeId) (a v : AV) (fs : FS) : Option OR :=
  match v.cells? with
  | none => none
  | some new =>
    if new.length = cx.P.cellsOf t ∧ (cx.P.info? t).isSome then
      match a with
      | .loc dep d ver off =>
        if dep = cx.dep ∧ (fs.b d).1 = ver ∧ ver ≠ 0 then
          match wrc off new (fs.b d).2 with
          | some cs => some (.val .undef (upd d (ver, cs) fs.b) fs.S (.wl d)) | none => none
        else none
      | .ptr id off => match fs.S.H[id]? with
        | some bx => match wrc off new bx.cs with
          | some cs => if AV.sealedL new then some (.val .undef fs.b { fs.S with H := fs.S.H.set id ⟨bx.ty, cs⟩ } (.wo id)) else none
          | none => none
        | none => none
      | _ => none
    else none

/-- a new box of these cells: local to the frame, or (if it is said to escape) outside -/
def evBox (cx : Ctx) (i : Nat) (dst : Option Tmp) (ty : TypeId) (cs : List AV) (fs : FS) : Option OR :=
  match dst with
  | none => none
  | some d =>
    if cx.esc d then (if AV.sealedL cs then some (.val (.ptr fs.S.H.length 0) fs.b { fs.S with H := fs.S.H ++ [⟨ty, cs⟩] } .wh) else none)
    else some (.val (.loc cx.dep d (fs.c + i + 1) 0) (upd d (fs.c + i + 1, cs) fs.b) fs.S (.wl d))

/-! ### plain operations -/
def evBin (bq : Bool) (op : BinOp) (x y : AV) : Option AV :=
  match x, y with
  | .int k a, .int k' b =>
    match op with
    | .shl => if 0 ≤ b then some (.int k (k.wrap (a * 2 ^ (min b.toNat k.bits)))) else none
    | .shr => if 0 ≤ b then some (.int k (a.fdiv (2 ^ (min b.toNat k.bits)))) else none
    | _ => if k = k' then
      match op with
      | .add => some (.int k (k.wrap (a + b))) | .sub => some (.int k (k.wrap (a - b))) | .mul => some (.int k (k.wrap (a * b)))
      | .quo => if b = 0 then none else some (.int k (k.wrap (a.tdiv b)))
      | .rem => if b = 0 then none else some (.int k (a.tmod b))
      | .and => some (.int k (k.wrap (BitVec.ofInt k.bits a &&& BitVec.ofInt k.bits b).toNat))
      | .or => some (.int k (k.wrap (BitVec.ofInt k.bits a ||| BitVec.ofInt k.bits b).toNat))
      | .xor => some (.int k (k.wrap (BitVec.ofInt k.bits a ^^^ BitVec.ofInt k.bits b).toNat))
      | .eql => some (.bool (a == b)) | .neq => some (.bool (a != b))
      | .lss => some (.bool (decide (a < b))) | .leq => some (.bool (decide (a ≤ b)))
      | .gtr => some (.bool (decide (a > b))) | .geq => some (.bool (decide (a ≥ b)))
      | _ => none
      else none
  | .bool a, .bool b =>
    if bq then
      match op with
      | .eql => some (.bool (a == b)) | .neq => some (.bool (!(a == b))) | _ => none
    else none
  | .str a, .str b =>
    match op with
    | .add => if a.length + b.length ≤ 4611686018427387904 then some (.str (a ++ b)) else none
    | .eql => some (.bool (a == b)) | .neq => some (.bool (!(a == b)))
    | .lss => some (.bool (Op.bytesLess a b)) | .leq => some (.bool (Op.bytesLess a b || a == b))
    | .gtr => some (.bool (!(Op.bytesLess a b || a == b))) | .geq => some (.bool (!Op.bytesLess a b))
    | _ => none
  | _, _ => none
def boolQ (P : Program) (t : TypeId) : Bool :=
  match P.underlying t with
  | some .bool => true | _ => false
def ifcQ (P : Program) (t : TypeId) : Bool :=
  match P.underlying t with
  | some (.interface _) => true | _ => false
def ptrQ (P : Program) (t : TypeId) : Bool :=
  match P.underlying t with
  | some (.pointer _) => true | _ => false
def cmpN (op : BinOp) (r : Bool) : Option AV :=
  match op with
  | .eql => some (.bool r) | .neq => some (.bool (!r)) | _ => none
def isC : Operand → Bool
  | .const _ => true | _ => false
/-- likewise, with interface values held against nil (two nils: only where one is written so) -/
def evB2 (P : Program) (t : TypeId) (kc : Bool) (op : BinOp) (x y : AV) : Option AV :=
  match x, y with
  | .iface _ _, .nilif => if ifcQ P t then cmpN op false else none
  | .nilif, .iface _ _ => if ifcQ P t then cmpN op false else none
  | .nilif, .nilif => if ifcQ P t && kc then cmpN op true else none
  | .ptr _ _, .nilp => if ptrQ P t then cmpN op false else none
  | .ref _, .nilp => if ptrQ P t then cmpN op false else none
  | .loc _ _ _ _, .nilp => if ptrQ P t then cmpN op false else none
  | .nilp, .nilp => if ptrQ P t then cmpN op true else none
  | a, b => evBin (boolQ P t) op a b
/-- 'x.(T)' with its ok, T no interface -/
def zvQ (P : Program) (t : TypeId) : Option AV :=
  match P.info? t with
  | some i => match i.zero with
    | some v => some (ofC v) | none => none
  | none => none
def evAssert (P : Program) (t : TypeId) (x : AV) : Option AV :=
  if concQ P t then
    match x with
    | .iface u v => if u = t then some (.tup [v, .bool true]) else (match zvQ P t with | some z => some (.tup [z, .bool false]) | none => none)
    | .nilif => match zvQ P t with
      | some z => some (.tup [z, .bool false]) | none => none
    | _ => none
  else none
def evUn (op : UnOp) (x : AV) : Option AV :=
  match op, x with
  | .neg, .int k n => some (.int k (k.wrap (0 - n)))
  | .not, .bool b => some (.bool (!b))
  | _, _ => none
def bytesOf : List AV → Option (List UInt8)
  | [] => some []
  | .int .u8 n :: l => match bytesOf l with
    | some r => some (UInt8.ofNat n.toNat :: r) | none => none
  | _ :: _ => none
def evConv (P : Program) (src dst : TypeId) (x : AV) : Option AV :=
  match x with
  | .int _ n => match intQ P src, intQ P dst with
    | some _, some k => some (.int k (k.wrap n)) | _, _ => none
  | .str s => if strQ P src = true ∧ strQ P dst = true then some (.str s) else none
  | .slice es _ => match sliceQ P src with
    | some e => if intQ P e = some .u8 ∧ strQ P dst = true then (match bytesOf es with | some b => some (.str b) | none => none) else none
    | none => none
  | _ => none

/-- each fills so many cells -/
def sizesOk (n : Nat) : List AV → Bool
  | [] => true
  | a :: l => (match a.cells? with | some cs => cs.length == n | none => false) && sizesOk n l
def nth (l : List AV) (i : Int) : Option AV := if 0 ≤ i then l[i.toNat]? else none
def evField (P : Program) (t : TypeId) (x : AV) (f : Nat) : Option AV :=
  match fieldQ P t f, x with
  | some (off, sz, agg), .agg cs => rdc agg sz (cs.drop off)
  | _, _ => none
def evFieldAddr (P : Program) (t : TypeId) (x : AV) (f : Nat) : Option AV :=
  match fieldQ P t f with
  | some (off, _, _) => match x with
    | .ref cs => some (.ref (cs.drop off))
    | .loc dep d ver o => some (.loc dep d ver (o + off))
    | .ptr id o => some (.ptr id (o + off))
    | _ => none
  | none => none
def evIndex (P : Program) (t : TypeId) (x i : AV) : Option AV :=
  match i with
  | .int _ n => match x with
    | .str s => if strQ P t = true ∧ 0 ≤ n then (match s[n.toNat]? with | some b => some (.int .u8 b.toNat) | none => none) else none
    | .agg cs => match arrQ P t with
      | some (len, e) => if 0 ≤ n ∧ n < len ∧ (P.underlying e).isSome then rdc (aggQ P e) (P.cellsOf e) (cs.drop (n.toNat * P.cellsOf e)) else none
      | none => none
    | _ => none
  | _ => none
def evIndexAddr (P : Program) (t : TypeId) (x i : AV) : Option AV :=
  match i with
  | .int _ n => match x with
    | .slice es _ => match sliceQ P t with
      | some e => match nth es n with
        | some v => match v.cells? with
          | some cs => if cs.length = P.cellsOf e ∧ (P.info? e).isSome then some (.ref cs) else none
          | none => none
        | none => none
      | none => none
    | _ => match arrQ P t with
      | some (len, e) =>
        if 0 ≤ n ∧ n < len ∧ (P.info? e).isSome then
          match x with
          | .ref cs => some (.ref (cs.drop (n.toNat * P.cellsOf e)))
          | .loc dep d ver o => some (.loc dep d ver (o + n.toNat * P.cellsOf e))
          | .ptr id o => some (.ptr id (o + n.toNat * P.cellsOf e))
          | _ => none
        else none
      | none => none
  | _ => none
def evSlice (P : Program) (t : TypeId) (x : AV) (lo hi : Option AV) : Option AV :=
  match x with
  | .str s =>
    if strQ P t = true then
      match (match hi with | none => some (.int .i64 s.length) | some h => some h : Option AV), (match lo with | none => some (.int .i64 0) | some l => some l : Option AV) with
      | some (.int _ h), some (.int _ l) => if 0 ≤ h ∧ h ≤ s.length ∧ 0 ≤ l ∧ l ≤ h then some (.str ((s.take h.toNat).drop l.toNat)) else none
      | _, _ => none
    else none
  | .slice es tok =>
    match sliceQ P t with
    | none => none
    | some e =>
      if (P.info? e).isSome ∧ sizesOk (P.cellsOf e) es = true then
        match (match hi with | none => some (.int .i64 es.length) | some h => some h : Option AV), (match lo with | none => some (.int .i64 0) | some l => some l : Option AV) with
        | some (.int _ h), some (.int _ l) =>
          if 0 ≤ h ∧ h ≤ es.length ∧ 0 ≤ l ∧ l ≤ h then
            some (.slice ((es.take h.toNat).drop l.toNat) (match hi, tok with | none, .clip => .clip | _, _ => .non))
          else none
        | _, _ => none
      else none
  | _ => none

/-- the parts of a struct or an array, laid over its zero -/
def fillA (place : Nat → Option (Nat × Nat)) : List (Nat × AV) → List AV → Option (List AV)
  | [], cs => some cs
  | (i, v) :: r, cs => match place i, v.cells? with
    | some (off, sz), some new => if new.length = sz then (match wrc off new cs with | some cs' => fillA place r cs' | none => none) else none
    | _, _ => none
def placeQ (P : Program) (t : TypeId) (i : Nat) : Option (Nat × Nat) :=
  match P.underlying t with
  | some (.struct fs) => match fs[i]? with
    | some f => some (f.offset, P.cellsOf f.type) | none => none
  | some (.array _ e) => some (i * P.cellsOf e, P.cellsOf e)
  | _ => none
/-- every field's type is known -/
def partsQ (P : Program) (t : TypeId) : Bool :=
  match P.underlying t with
  | some (.struct fs) => fs.all fun f => (P.info? f.type).isSome
  | some (.array _ e) => (P.info? e).isSome
  | _ => false
def evBuild (P : Program) (t : TypeId) (parts : List (Nat × AV)) : Option AV :=
  if partsQ P t then
    match zeroQ P t with
    | some z => match fillA (placeQ P t) parts z with
      | some cs => some (.agg cs) | none => none
    | none => none
  else none
/-- slice literals whose elements are all given, in order -/
def evElems (agg : Bool) (sz : Nat) : Nat → List (Nat × AV) → Option (List AV)
  | _, [] => some []
  | k, (i, v) :: r =>
    match v.cells? with
    | some cs => if i = k ∧ cs.length = sz ∧ (agg = true ∨ sz = 1) then
        (match evElems agg sz (k + 1) r with | some es => some (v :: es) | none => none) else none
    | none => none
def evBuildSlice (P : Program) (t : TypeId) (len : Nat) (parts : List (Nat × AV)) : Option AV :=
  match sliceQ P t with
  | some e => match zeroQ P e with
    | some z =>
      if len * P.cellsOf e ≤ 16777216 ∧ parts.length = len ∧ z.length = P.cellsOf e ∧ z.length ≠ 0 then
        match evElems (aggQ P e) (P.cellsOf e) 0 parts with
        | some es => some (.slice es .clip) | none => none
      else none
    | none => none
  | none => none

/-! ### builtins -/
def evLen (P : Program) (t : TypeId) (x : AV) : Option AV :=
  match x with
  | .str s => if strQ P t then some (.int .i64 s.length) else none
  | .slice es _ => match sliceQ P t with
    | some _ => some (.int .i64 es.length) | none => none
  | _ => none
def elemsOf (x : AV) : Option (List AV) :=
  match x with
  | .slice es _ => some es
  | .str s => some (s.map fun b => .int .u8 b.toNat)
  | _ => none
def evAppend (P : Program) (ts : List TypeId) (s x : AV) (S : St) : Option (AV × St) :=
  match ts with
  | ty :: tx :: _ =>
    match sliceQ P ty, (match P.underlying tx with | some (.int _) => none | none => none | some _ => some () : Option Unit) with
    | some e, some () =>
      match s, elemsOf x with
      | .slice es tok, some xs =>
        match zeroQ P e with
        | none => none
        | some z =>
          if z.length = P.cellsOf e ∧ z.length ≠ 0 ∧ P.bytesOf e ≠ 0 ∧ (es.length + xs.length) * P.bytesOf e ≤ 70368744177664 ∧ (es.length + xs.length) * P.cellsOf e ≤ 70368744177664 ∧
             sizesOk (P.cellsOf e) es = true ∧ sizesOk (P.cellsOf e) xs = true then
            if xs = [] then some (.slice es tok, S)
            else match tok with
              | .clip => some (.slice (es ++ xs) (.own S.T.length ((es.length + xs.length) * P.cellsOf e)), { S with T := S.T ++ [(es.length + xs.length) * P.cellsOf e] })
              | .own k pos => if S.T[k]? = some pos then some (.slice (es ++ xs) (.own k (pos + xs.length * P.cellsOf e)), { S with T := S.T.set k (pos + xs.length * P.cellsOf e) }) else none
              | .non => none
          else none
      | _, _ => none
    | _, _ => none
  | _ => none

def goOp (S : St) (b : Nat → Nat × List AV) : Option AV → Option OR
  | some v => some (.val v b S .non)
  | none => none

def rhoL (t : Nat → AV) (l : Array Operand) : List AV := l.toList.map (rho t)

def evMin2 : AV → AV → Option AV
  | .int k x, .int k' y => if k = k' then some (.int k (if y < x then y else x)) else none
  | _, _ => none
def evMax2 : AV → AV → Option AV
  | .int k x, .int k' y => if k = k' then some (.int k (if y > x then y else x)) else none
  | _, _ => none

def evBuiltin (cx : Ctx) (bi : Builtin) (ts : List TypeId) (args : List AV) (fs : FS) : Option OR :=
  match bi with
  | .len => match ts, args with
    | t :: _, x :: _ => goOp fs.S fs.b (evLen cx.P t x) | _, _ => none
  | .min => match args with
    | [x, y] => goOp fs.S fs.b (evMin2 x y) | _ => none
  | .max => match args with
    | [x, y] => goOp fs.S fs.b (evMax2 x y) | _ => none
  | .append => match args with
    | [s, x] => match evAppend cx.P ts s x fs.S with
      | some (v, S') => some (.val v fs.b S' .wh) | none => none
    | _ => none
  | _ => none

def evCallee (call : Cal) (fs : FS) (f : AV) (args : List AV) : Option OR :=
  match f with
  | .fn g first cap => match call g (first ++ (args ++ cap)) fs.S with
    | some (.ret v, S') => some (.val v fs.b S' .wh)
    | some (.pan v, S') => some (.pan v S')
    | none => none
  | _ => none

def evOp (cx : Ctx) (call : Cal) (i : Nat) (o : Oper) (fs : FS) : Option OR :=
  match o.op with
  | .move x => some (.val (rho fs.t x) fs.b fs.S .non)
  | .assign x => some (.val (rho fs.t x) fs.b fs.S .non)
  | .pick c a b => match rho fs.t c with
    | .bool q => some (.val (if q then rho fs.t a else rho fs.t b) fs.b fs.S .non)
    | _ => none
  | .alloc ty => match zeroQ cx.P ty with
    | some z => evBox cx i o.dst ty z fs | none => none
  | .box ty x => match (rho fs.t x).cells? with
    | some cs => evBox cx i o.dst ty cs fs | none => none
  | .build t parts => goOp fs.S fs.b (evBuild cx.P t (parts.toList.map fun p => (p.1, rho fs.t p.2)))
  | .buildSlice t len parts => goOp fs.S fs.b (evBuildSlice cx.P t len (parts.toList.map fun p => (p.1, rho fs.t p.2)))
  | .load t a => evLoad cx t (rho fs.t a) fs
  | .store t a x => evStore cx t (rho fs.t a) (rho fs.t x) fs
  | .nilCheck x => match rho fs.t x with
    | .ref cs => some (.val (.ref cs) fs.b fs.S .non)
    | .loc a b c d => some (.val (.loc a b c d) fs.b fs.S .non)
    | .ptr a b => some (.val (.ptr a b) fs.b fs.S .non)
    | _ => none
  | .binOp op xt x y _ => goOp fs.S fs.b (evB2 cx.P xt (isC x || isC y) op (rho fs.t x) (rho fs.t y))
  | .unOp op _ x => goOp fs.S fs.b (evUn op (rho fs.t x))
  | .convert s d x => goOp fs.S fs.b (evConv cx.P s d (rho fs.t x))
  | .makeInterface t x => if concQ cx.P t then some (.val (.iface t (rho fs.t x)) fs.b fs.S .non) else none
  | .makeFunc (.func f) first cap => some (.val (.fn f (rhoL fs.t first) (rhoL fs.t cap)) fs.b fs.S .non)
  | .slice t x lo hi none => goOp fs.S fs.b (evSlice cx.P t (rho fs.t x) (lo.map (rho fs.t)) (hi.map (rho fs.t)))
  | .fieldAddr s x f => goOp fs.S fs.b (evFieldAddr cx.P s (rho fs.t x) f)
  | .field t x f => goOp fs.S fs.b (evField cx.P t (rho fs.t x) f)
  | .indexAddr t x ix => goOp fs.S fs.b (evIndexAddr cx.P t (rho fs.t x) (rho fs.t ix))
  | .index t x ix => goOp fs.S fs.b (evIndex cx.P t (rho fs.t x) (rho fs.t ix))
  | .extract x k => match rho fs.t x with
    | .tup vs => goOp fs.S fs.b vs[k]? | _ => none
  | .call ⟨.value f, args, _⟩ => evCallee call fs (rho fs.t f) (rhoL fs.t args)
  | .call ⟨.builtin bi, args, ts⟩ => evBuiltin cx bi ts.toList (rhoL fs.t args) fs
  | .panic x => match rho fs.t x with
    | .iface t v => some (.pan (.iface t v) fs.S) | _ => none
  | .typeAssert x _ t true => goOp fs.S fs.b (evAssert cx.P t (rho fs.t x))
  | _ => none

/-! ### a region -/
def putA (t : Nat → AV) (dst : Option Tmp) (v : AV) : Nat → AV :=
  match dst with
  | some d => upd d v t | none => t

/-- is it to be done? (Its guard's operation must have left a bool, or nothing.) -/
def wantedA (gd : Option (Nat × Bool)) (ops : Array Oper) (t : Nat → AV) : Option Bool :=
  match gd with
  | none => some true
  | some (j, want) => match (ops[j]?).bind (·.dst) with
    | some d => match t d with
      | .bool q => some (q == want)
      | .undef => some false
      | _ => none
    | none => none

inductive OutS where
  | ok (fs : FS) (fp : FP)
  | pan (v : AV) (fs : FS)

def stepA (cx : Ctx) (call : Cal) (ops : Array Oper) (i : Nat) (o : Oper) (fs : FS) : Option OutS :=
  match wantedA o.guard ops fs.t with
  | some true => match evOp cx call i o fs with
    | some (.val v b S fp) => some (.ok ⟨putA fs.t o.dst v, b, fs.c, S⟩ fp)
    | some (.pan v S) => some (.pan v ⟨fs.t, fs.b, fs.c, S⟩)
    | none => none
  | some false => some (.ok ⟨putA fs.t o.dst .undef, fs.b, fs.c, fs.S⟩ .non)
  | none => none

/-- in any order -/
def seqA (cx : Ctx) (call : Cal) (ops : Array Oper) : List Nat → FS → Option OutS
  | [], fs => some (.ok fs .non)
  | i :: l, fs => match ops[i]? with
    | none => none
    | some o => match stepA cx call ops i o fs with
      | some (.ok fs' _) => seqA cx call ops l fs'
      | r => r
/-- in the order of the text -/
def lexA (cx : Ctx) (call : Cal) (ops : Array Oper) : Nat → List Oper → FS → Option OutS
  | _, [], fs => some (.ok fs .non)
  | i, o :: l, fs => match stepA cx call ops i o fs with
    | some (.ok fs' _) => lexA cx call ops (i + 1) l fs'
    | r => r
/-- likewise, with what each has touched; or which one panicked, and with what -/
inductive DR where
  | ok (fs : FS) (fps : List FP)
  | pan (v : AV) (fs : FS) (i : Nat) (fps : List FP)
def lexF (cx : Ctx) (call : Cal) (ops : Array Oper) : Nat → List Oper → FS → List FP → Option DR
  | _, [], fs, fps => some (.ok fs fps)
  | i, o :: l, fs, fps => match stepA cx call ops i o fs with
    | some (.ok fs' fp) => lexF cx call ops (i + 1) l fs' (fps ++ [fp])
    | some (.pan v fs') => some (.pan v fs' i fps)
    | none => none

def FP.clash : FP → FP → Bool
  | .rl d, .wl e => d == e | .wl d, .rl e => d == e | .wl d, .wl e => d == e
  | .rh, .wh => true | .wh, .rh => true | .wh, .wh => true
  | .ro d, .wo e => d == e | .wo d, .ro e => d == e | .wo d, .wo e => d == e
  | .ro _, .wh => true | .wh, .ro _ => true | .wo _, .wh => true | .wh, .wo _ => true | .rh, .wo _ => true | .wo _, .rh => true
  | _, _ => false
def noClash (fps : List FP) : List (Nat × Nat) → Bool
  | [] => true
  | (i, j) :: l => (i == j || (match fps[i]?, fps[j]? with | some a, some b => !FP.clash a b | _, _ => true)) && noClash fps l
/-- a pair (i, i) says: operation i, a call, may panic -/
def panIn (i : Nat) : List (Nat × Nat) → Bool
  | [] => false
  | (a, b) :: l => (a == i && b == i) || panIn i l

/-! ### code -/
inductive Out where
  | norm | exit (id : Nat) | ret | pan (v : AV)

def iter : Nat → (FS → Option (Out × FS)) → FS → Option (Out × FS)
  | 0, _, _ => none
  | k + 1, body, fs => match body fs with
    | some (.norm, fs') => iter k body fs'
    | r => r

def afterRegion (n : Nat) : Option OutS → Option (Out × FS)
  | some (.ok fs _) => some (.norm, ⟨fs.t, fs.b, fs.c + n, fs.S⟩)
  | some (.pan v fs) => some (.pan v, fs)
  | none => none
/-- behind a panic in no order: nothing is known of the frame -/
def lostF (fs : FS) : FS := ⟨fun _ => .junk, fun _ => (0, []), fs.c, fs.S⟩
def afterDraw (n : Nat) (ps : List (Nat × Nat)) : Option DR → Option (Out × FS)
  | some (.ok fs fps) => if noClash fps ps then some (.norm, ⟨fs.t, fs.b, fs.c + n, fs.S⟩) else none
  | some (.pan v fs i fps) => if panIn i ps && noClash (fps ++ [.wh]) ps then some (.pan v, lostF fs) else none
  | none => none

def evCode (cx : Ctx) (call : Cal) (ps : Nat → List (Nat × Nat)) (L : Nat) : Code → FS → Option (Out × FS)
  | .skip, fs => some (.norm, fs)
  | .region _ ops false, fs => afterRegion ops.size (lexA cx call ops 0 ops.toList fs)
  | .region id ops true, fs => afterDraw ops.size (ps id) (lexF cx call ops 0 ops.toList fs [])
  | .seq x y, fs => match evCode cx call ps L x fs with
    | some (.norm, fs') => evCode cx call ps L y fs'
    | r => r
  | .cond c x y, fs => match rho fs.t c with
    | .bool true => evCode cx call ps L x fs
    | .bool false => evCode cx call ps L y fs
    | _ => none
  | .block id c, fs => match evCode cx call ps L c fs with
    | some (.exit k, fs') => if k = id then some (.norm, fs') else some (.exit k, fs')
    | r => r
  | .loop c, fs => iter L (evCode cx call ps L c) fs
  | .exit id, fs => some (.exit id, fs)
  | .ret, fs => some (.ret, fs)
  | _, _ => none

/-! ### calls -/
mutual
def avEq : AV → AV → Bool
  | .junk, .junk => true | .undef, .undef => true | .nilp, .nilp => true | .nilif, .nilif => true
  | .bool a, .bool b => a == b
  | .int k a, .int k' b => decide (k = k') && a == b
  | .str a, .str b => a == b
  | .agg a, .agg b => avEqL a b | .tup a, .tup b => avEqL a b | .ref a, .ref b => avEqL a b
  | .slice a .non, .slice b .non => avEqL a b | .slice a .clip, .slice b .clip => avEqL a b
  | .slice a (.own t p), .slice b (.own u q) => t == u && p == q && avEqL a b
  | .loc a b c d, .loc a' b' c' d' => a == a' && b == b' && c == c' && d == d'
  | .ptr a b, .ptr a' b' => a == a' && b == b'
  | .fn f a b, .fn f' a' b' => f == f' && avEqL a a' && avEqL b b'
  | .iface t a, .iface t' a' => t == t' && avEq a a'
  | _, _ => false
def avEqL : List AV → List AV → Bool
  | [], [] => true
  | a :: l, b :: m => avEq a b && avEqL l m
  | _, _ => false
end
def boxEqL : List HBox → List HBox → Bool
  | [], [] => true
  | a :: l, b :: m => a.ty == b.ty && avEqL a.cs b.cs && boxEqL l m
  | _, _ => false

mutual
/-- tokens from t0 on forgotten -/
def AV.strip (t0 : Nat) : AV → AV
  | .agg cs => .agg (AV.stripL t0 cs) | .tup cs => .tup (AV.stripL t0 cs) | .ref cs => .ref (AV.stripL t0 cs)
  | .slice es (.own t p) => if t < t0 then .slice (AV.stripL t0 es) (.own t p) else .slice (AV.stripL t0 es) .non
  | .slice es .non => .slice (AV.stripL t0 es) .non
  | .slice es .clip => .slice (AV.stripL t0 es) .clip
  | .fn f a b => .fn f (AV.stripL t0 a) (AV.stripL t0 b)
  | .iface t v => .iface t (v.strip t0)
  | .junk => .junk | .undef => .undef | .bool b => .bool b | .int k n => .int k n | .str s => .str s
  | .nilp => .nilp | .nilif => .nilif | .loc a b c d => .loc a b c d | .ptr a b => .ptr a b
def AV.stripL (t0 : Nat) : List AV → List AV
  | [] => []
  | a :: l => a.strip t0 :: AV.stripL t0 l
end
mutual
/-- no box from h0 on, no token from t0 on -/
def AV.low (h0 t0 : Nat) : AV → Bool
  | .ptr id _ => decide (id < h0)
  | .slice es (.own t _) => decide (t < t0) && AV.lowL h0 t0 es
  | .slice es _ => AV.lowL h0 t0 es
  | .agg cs => AV.lowL h0 t0 cs | .tup cs => AV.lowL h0 t0 cs | .ref cs => AV.lowL h0 t0 cs
  | .fn _ a b => AV.lowL h0 t0 a && AV.lowL h0 t0 b
  | .iface _ v => v.low h0 t0
  | _ => true
def AV.lowL (h0 t0 : Nat) : List AV → Bool
  | [] => true
  | a :: l => a.low h0 t0 && AV.lowL h0 t0 l
end

/-- what boxes hold, of that kind -/
def lowB (h0 t0 : Nat) : List HBox → Bool
  | [] => true
  | a :: l => AV.lowL h0 t0 a.cs && lowB h0 t0 l
/-- what the caller sees: where nothing outside has turned, the world is as it was; new boxes that nothing looks at are forgotten -/
def finish (S : St) (v : AV) (S' : St) : Option (AV × St) :=
  if v.sealed then
    if boxEqL (S'.H.take S.H.length) S.H && S'.T.take S.T.length == S.T && (v.strip S.T.length).low S.H.length S.T.length then some (v.strip S.T.length, S)
    else if decide (S.H.length ≤ S'.H.length) && S'.T.take S.T.length == S.T && lowB S.H.length S.T.length (S'.H.take S.H.length) && (v.strip S.T.length).low S.H.length S.T.length then some (v.strip S.T.length, ⟨S'.H.take S.H.length, S.T⟩)
    else if decide (S.H.length ≤ S'.H.length) && lowB S.H.length S'.T.length (S'.H.take S.H.length) && v.low S.H.length S'.T.length then some (v, ⟨S'.H.take S.H.length, S'.T⟩)
    else some (v, S')
  else none

def resA (P : Program) (cx : Ctx) (fs : FS) : List ResultVar → Option (List AV)
  | [] => some []
  | .tmp t :: l => match resA P cx fs l with
    | some r => some (fs.t t :: r) | none => none
  | .cell a ty :: l => match evLoad cx ty (fs.t a) fs, resA P cx fs l with
    | some (.val v _ _ _), some r => some (v :: r) | _, _ => none
def oneOf : List AV → AV
  | [v] => v
  | vs => .tup vs

def finRet (S : St) (v : AV) (S' : St) : Option (Res × St) :=
  match finish S v S' with
  | some (v, S'') => some (.ret v, S'') | none => none
def finPan (S : St) (v : AV) (S' : St) : Option (Res × St) :=
  match finish S v S' with
  | some (v, S'') => some (.pan v, S'') | none => none
def fromBody (P : Program) (cx : Ctx) (S : St) (rs : List ResultVar) : Option (Out × FS) → Option (Res × St)
  | some (.norm, fs) => match resA P cx fs rs with
    | some vs => finRet S (oneOf vs) fs.S | none => none
  | some (.ret, fs) => match resA P cx fs rs with
    | some vs => finRet S (oneOf vs) fs.S | none => none
  | some (.pan v, fs) => finPan S v fs.S
  | _ => none

/-- which functions are followed, which boxes lie outside, which operations of a region that draws are in no order; and functions that are proved by hand -/
structure Env where
  ok : FuncId → Bool
  esc : FuncId → Tmp → Bool
  ps : FuncId → Nat → List (Nat × Nat)
  ext : FuncId → List AV → St → Option (Res × St)
  /-- those that defer one call (a closure's), at the head of their text's row -/
  dfr : FuncId → Bool := fun _ => false

def argsA (args : List AV) : Nat → AV := fun x => match args[x]? with | some a => a | none => .undef

def evFunc (P : Program) (E : Env) (call : Cal) (n : Nat) (f : FuncId) (args : List AV) (S : St) : Option (Res × St) :=
  match P.funcs[f]? with
  | none => none
  | some fn => match fn.body with
    | none => none
    | some c =>
      if args.length ≤ fn.ntmps ∧ (fn.name == "runtime.NumGoroutine") = false then
        fromBody P ⟨P, E.esc f, n⟩ S fn.results.toList (evCode ⟨P, E.esc f, n⟩ call (E.ps f) n c ⟨argsA args, fun _ => (0, []), 0, S⟩)
      else none

/-! ### a deferred call -/
def isDefer (o : Oper) : Option Call :=
  match o.op with
  | .defer c => if o.dst.isNone && o.guard.isNone then some c else none
  | _ => none
/-- a text, cut at its one 'defer': what stands ahead, the region that ends with it, its call, the rest -/
def cutD : Code → Option (Code × Array Oper × Call × Code)
  | .seq (.region id ops false) y =>
    match (ops.back?).bind isDefer with
    | some c => some (.skip, ops, c, y)
    | none => match cutD y with
      | some (A, r, c, B) => some (.seq (.region id ops false) A, r, c, B) | none => none
  | .seq x y => match cutD y with
    | some (A, r, c, B) => some (.seq x A, r, c, B) | none => none
  | _ => none
/-- a deferred call: whether it has recovered, and what is outside behind it; handed to it: what was panicked with -/
abbrev CalD := FuncId → List AV → St → Option AV → Option (Bool × St)

def isRecover (o : Oper) : Option Tmp :=
  match o.op with
  | .call ⟨.builtin .recover, args, _⟩ => if o.guard.isNone && args.isEmpty then o.dst else none
  | _ => none
/-- a text that begins with 'recover': that region's, where it puts what it gets, the rest -/
def cutR : Code → Option (Nat × Array Oper × Tmp × Code)
  | .seq (.region id ops false) y => match (ops[0]?).bind isRecover with
    | some d => some (id, ops, d, y) | none => none
  | _ => none
def endD (P : Program) (S : St) (rs : List ResultVar) (rec : Bool) : Option (Out × FS) → Option (Bool × St)
  | some (.norm, fs) => if rs.isEmpty then (match finish S (.tup []) fs.S with | some (_, S') => some (rec, S') | none => none) else none
  | some (.ret, fs) => if rs.isEmpty then (match finish S (.tup []) fs.S with | some (_, S') => some (rec, S') | none => none) else none
  | _ => none
def pvOf : Option AV → AV
  | some v => v | none => .nilif
def evDefer (P : Program) (E : Env) (call : Cal) (n : Nat) (f : FuncId) (args : List AV) (S : St) (pv : Option AV) : Option (Bool × St) :=
  match P.funcs[f]? with
  | none => none
  | some fn => match fn.body with
    | none => none
    | some c =>
      if args.length ≤ fn.ntmps ∧ (fn.name == "runtime.NumGoroutine") = false then
        match cutR c with
        | some (id, ops, d, y) =>
          match seqA ⟨P, E.esc f, n⟩ call ops (List.range' 1 (ops.size - 1)) ⟨upd d (pvOf pv) (argsA args), fun _ => (0, []), 0, S⟩ with
          | some (.ok fs _) => endD P S fn.results.toList pv.isSome (evCode ⟨P, E.esc f, n⟩ call (E.ps f) n y ⟨fs.t, fs.b, fs.c + ops.size, fs.S⟩)
          | _ => none
        | none => endD P S fn.results.toList false (evCode ⟨P, E.esc f, n⟩ call (E.ps f) n c ⟨argsA args, fun _ => (0, []), 0, S⟩)
      else none

/-- behind the body: the deferred call, then what is handed back -/
def fromD (P : Program) (cx : Ctx) (dc : CalD) (g : FuncId) (as : List AV) (S : St) (rs : List ResultVar) : Option (Out × FS) → Option (Res × St)
  | some (.norm, fs) => match dc g as fs.S none with
    | some (_, S') => (match resA P cx ⟨fs.t, fs.b, fs.c, S'⟩ rs with | some vs => finRet S (oneOf vs) S' | none => none) | none => none
  | some (.ret, fs) => match dc g as fs.S none with
    | some (_, S') => (match resA P cx ⟨fs.t, fs.b, fs.c, S'⟩ rs with | some vs => finRet S (oneOf vs) S' | none => none) | none => none
  | some (.pan v, fs) => match dc g as fs.S (some v) with
    | some (true, S') => (match resA P cx ⟨fs.t, fs.b, fs.c, S'⟩ rs with | some vs => finRet S (oneOf vs) S' | none => none)
    | some (false, S') => finPan S v S'
    | none => none
  | _ => none

def evFuncD (P : Program) (E : Env) (call : Cal) (dc : CalD) (n : Nat) (f : FuncId) (args : List AV) (S : St) : Option (Res × St) :=
  match P.funcs[f]? with
  | none => none
  | some fn => match fn.body with
    | none => none
    | some c =>
      if args.length ≤ fn.ntmps ∧ (fn.name == "runtime.NumGoroutine") = false then
        match cutD c with
        | some (A, ops, d, B) =>
          match evCode ⟨P, E.esc f, n⟩ call (E.ps f) n A ⟨argsA args, fun _ => (0, []), 0, S⟩ with
          | some (.norm, fs1) =>
            match seqA ⟨P, E.esc f, n⟩ call ops (List.range (ops.size - 1)) fs1 with
            | some (.ok fs2 _) =>
              match d.callee with
              | .value w =>
                match rho fs2.t w with
                | .fn g first cap => fromD P ⟨P, E.esc f, n⟩ dc g (first ++ (rhoL fs2.t d.args ++ cap)) S fn.results.toList (evCode ⟨P, E.esc f, n⟩ call (E.ps f) n B ⟨fs2.t, fs2.b, fs2.c + ops.size, fs2.S⟩)
                | _ => none
              | _ => none
            | _ => none
          | some (.ret, fs1) => fromBody P ⟨P, E.esc f, n⟩ S fn.results.toList (some (.ret, fs1))
          | some (.pan v, fs1) => finPan S v fs1.S
          | _ => none
        | none => none
      else none

/-- calls, and deferred calls, so deep -/
def evs (P : Program) (E : Env) : Nat → Cal × CalD
  | 0 => (fun _ _ _ => none, fun _ _ _ _ => none)
  | n + 1 => (fun f args S => if E.ok f then (if E.dfr f then evFuncD P E (evs P E n).1 (evs P E n).2 n f args S else evFunc P E (evs P E n).1 n f args S) else E.ext f args S,
      fun f args S pv => if E.ok f then evDefer P E (evs P E n).1 n f args S pv else none)
def ev (P : Program) (E : Env) (n : Nat) : Cal := (evs P E n).1
def evd (P : Program) (E : Env) (n : Nat) : CalD := (evs P E n).2
end Go.Proofs.YtmhidempoabehaaGreatDoor.AE
/- How the evaluator's values stand for the model's, and what such a relation bears. No condition. -/
namespace Go.Proofs.YtmhidempoabehaaGreatDoor.AE
set_option linter.unusedVariables false
set_option linter.unusedSimpArgs false
open Go Go.RowKit

/-- what is known of memory beside the world: cells that nobody writes any more; the blocks of boxes, of local boxes, of tokens (with how many cells); the frontiers -/
structure Gh where
  I : Nat → Nat → Option Value
  phi : Nat → Option Nat
  nu : Nat → Nat → Option Nat
  tau : Nat → Option (Nat × Nat)
  fr : Nat → Option Nat

def flatQ : List AV → Option (List AV)
  | [] => some []
  | e :: es => match e.cells?, flatQ es with
    | some cs, some l => some (cs ++ l) | _, _ => none

def TokR (G : Gh) (tok : Tok) (es : List AV) (fl : List AV) (b o cap : Nat) : Prop :=
  match tok with
  | .non => True
  | .clip => cap = es.length
  | .own t pos => ∃ n sz, es ≠ [] ∧ 0 < sz ∧ G.fr t = some n ∧ pos ≤ n ∧ fl.length = es.length * sz ∧
      (n = pos → ∃ m, o = 0 ∧ G.tau t = some (b, m) ∧ fl.length = pos ∧ cap * sz ≤ m)

mutual
inductive VR (G : Gh) : AV → Value → Prop where
  | junk (v : Value) : VR G .junk v
  | undef : VR G .undef (.tuple #[])
  | bool (b : Bool) : VR G (.bool b) (.bool b)
  | int (k : IntKind) (n : Int) : VR G (.int k n) (.int k n)
  | str (bs : ByteArray) : VR G (.str bs.data.toList) (.string bs)
  | agg (cs : List AV) (vs : Array Value) : VRL G cs vs.toList → VR G (.agg cs) (.agg vs)
  | tup (cs : List AV) (vs : Array Value) : VRL G cs vs.toList → VR G (.tup cs) (.tuple vs)
  | nilp : VR G .nilp (.pointer none)
  | ref (cs : List AV) (b o : Nat) : VRI G cs b o → VR G (.ref cs) (.pointer (some ⟨b, o, none⟩))
  | loc (dep d ver off b : Nat) : G.nu dep ver = some b → VR G (.loc dep d ver off) (.pointer (some ⟨b, off, none⟩))
  | ptr (id off b : Nat) : G.phi id = some b → VR G (.ptr id off) (.pointer (some ⟨b, off, none⟩))
  | fn (f : FuncId) (first cap : List AV) (fv cv : Array Value) : VRL G first fv.toList → VRL G cap cv.toList → VR G (.fn f first cap) (.func (.func f) fv cv)
  | iface (t : TypeId) (a : AV) (v : Value) : VR G a v → VR G (.iface t a) (.iface t v)
  | nilif : VR G .nilif .nilIface
  | nils (tok : Tok) (ad : Option Addr) : (∀ t p, tok ≠ .own t p) → VR G (.slice [] tok) (.slice ad 0 0)
  | slice (es : List AV) (tok : Tok) (fl : List AV) (b o cap sz : Nat) : es.length ≤ cap → flatQ es = some fl → VRI G fl b o → TokR G tok es fl b o cap → sizesOk sz es = true →
      VR G (.slice es tok) (.slice (some ⟨b, o, none⟩) es.length cap)
inductive VRL (G : Gh) : List AV → List Value → Prop where
  | nil : VRL G [] []
  | cons (a : AV) (v : Value) (l : List AV) (m : List Value) : VR G a v → VRL G l m → VRL G (a :: l) (v :: m)
inductive VRI (G : Gh) : List AV → Nat → Nat → Prop where
  | nil (b o : Nat) : VRI G [] b o
  | cons (a : AV) (v : Value) (l : List AV) (b o : Nat) : G.I b o = some v → VR G a v → VRI G l b (o + 1) → VRI G (a :: l) b o
end

/-- G' knows all that G knows. -/
structure Gle (G G' : Gh) : Prop where
  I : ∀ b o v, G.I b o = some v → G'.I b o = some v
  phi : ∀ i b, G.phi i = some b → G'.phi i = some b
  nu : ∀ d v b, G.nu d v = some b → G'.nu d v = some b
  fr : ∀ t n, G.fr t = some n → ∃ n', G'.fr t = some n' ∧ n ≤ n' ∧ (n' = n → G'.tau t = G.tau t)

theorem Gle.refl (G : Gh) : Gle G G := ⟨fun _ _ _ h => h, fun _ _ h => h, fun _ _ _ h => h, fun _ n h => ⟨n, h, Nat.le_refl _, fun _ => rfl⟩⟩
theorem Gle.trans {A B C : Gh} (h : Gle A B) (k : Gle B C) : Gle A C :=
  ⟨fun b o v e => k.I b o v (h.I b o v e), fun i b e => k.phi i b (h.phi i b e), fun d v b e => k.nu d v b (h.nu d v b e), fun t n e => by
    obtain ⟨n1, e1, l1, t1⟩ := h.fr t n e
    obtain ⟨n2, e2, l2, t2⟩ := k.fr t n1 e1
    exact ⟨n2, e2, by omega, fun hn => by rw [t2 (by omega), t1 (by omega)]⟩⟩

theorem TokR.mono {G G' : Gh} (h : Gle G G') {tok : Tok} {es fl : List AV} {b o cap : Nat} (r : TokR G tok es fl b o cap) : TokR G' tok es fl b o cap := by
  cases tok with
  | non => trivial
  | clip => exact r
  | own t pos =>
    obtain ⟨n, sz, hne, hsz, hn, hp, hl, hc⟩ := r
    obtain ⟨n', e', l', t'⟩ := h.fr t n hn
    refine ⟨n', sz, hne, hsz, e', by omega, hl, fun e => ?_⟩
    rw [t' (by omega)]
    exact hc (by omega)

theorem VR.mono {G G' : Gh} (h : Gle G G') {a : AV} {v : Value} (r : VR G a v) : VR G' a v := by
  refine VR.rec (motive_1 := fun a v _ => VR G' a v) (motive_2 := fun l m _ => VRL G' l m) (motive_3 := fun l b o _ => VRI G' l b o)
    ?_ ?_ ?_ ?_ ?_ ?_ ?_ ?_ ?_ ?_ ?_ ?_ ?_ ?_ ?_ ?_ ?_ ?_ ?_ ?_ r
  · exact fun v => .junk v
  · exact .undef
  · exact fun b => .bool b
  · exact fun k n => .int k n
  · exact fun bs => .str bs
  · exact fun cs vs _ ih => .agg cs vs ih
  · exact fun cs vs _ ih => .tup cs vs ih
  · exact .nilp
  · exact fun cs b o _ ih => .ref cs b o ih
  · exact fun dep d ver off b hb => .loc dep d ver off b (h.nu _ _ _ hb)
  · exact fun id off b hb => .ptr id off b (h.phi _ _ hb)
  · exact fun f first cap fv cv _ _ ih1 ih2 => .fn f first cap fv cv ih1 ih2
  · exact fun t a v _ ih => .iface t a v ih
  · exact .nilif
  · exact fun tok ad ht => .nils tok ad ht
  · exact fun es tok fl b o cap sz h1 h2 _ h4 h5 ih => .slice es tok fl b o cap sz h1 h2 ih (h4.mono h) h5
  · exact .nil
  · exact fun a v l m _ _ ih1 ih2 => .cons a v l m ih1 ih2
  · exact fun b o => .nil b o
  · exact fun a v l b o hI _ _ ih1 ih2 => .cons a v l b o (h.I _ _ _ hI) ih1 ih2
theorem VRL.mono {G G' : Gh} (h : Gle G G') {l : List AV} {m : List Value} (r : VRL G l m) : VRL G' l m := by
  induction l generalizing m with
  | nil => cases r; exact .nil
  | cons a l ih => cases r with | cons _ v _ m ha hl => exact .cons _ _ _ _ (ha.mono h) (ih hl)
theorem VRI.mono {G G' : Gh} (h : Gle G G') {l : List AV} {b o : Nat} (r : VRI G l b o) : VRI G' l b o := by
  induction l generalizing o with
  | nil => exact .nil b o
  | cons a l ih => cases r with | cons _ v _ _ _ hI ha hl => exact .cons _ _ _ _ _ (h.I _ _ _ hI) (ha.mono h) (ih hl)

theorem VRL.length {G : Gh} {l : List AV} {m : List Value} (r : VRL G l m) : m.length = l.length := by
  induction l generalizing m with
  | nil => cases r; rfl
  | cons a l ih => cases r with | cons _ v _ m ha hl => simp [ih hl]
theorem VRL.get {G : Gh} {l : List AV} {m : List Value} (r : VRL G l m) {i : Nat} {a : AV} (h : l[i]? = some a) : ∃ v, m[i]? = some v ∧ VR G a v := by
  induction l generalizing m i with
  | nil => simp at h
  | cons x l ih =>
    cases r with
    | cons _ v _ m ha hl =>
      cases i with
      | zero => simp at h; subst h; exact ⟨v, by simp, ha⟩
      | succ i => simpa using ih hl (by simpa using h)
theorem VRL.append {G : Gh} {l l' : List AV} {m m' : List Value} (r : VRL G l m) (r' : VRL G l' m') : VRL G (l ++ l') (m ++ m') := by
  induction l generalizing m with
  | nil => cases r; exact r'
  | cons a l ih => cases r with | cons _ v _ m ha hl => exact .cons _ _ _ _ ha (ih hl)
theorem VRL.take {G : Gh} {l : List AV} {m : List Value} (r : VRL G l m) (n : Nat) : VRL G (l.take n) (m.take n) := by
  induction l generalizing m n with
  | nil => cases r; simp; exact .nil
  | cons a l ih =>
    cases r with
    | cons _ v _ m ha hl =>
      cases n with
      | zero => simp; exact .nil
      | succ n => simp; exact .cons _ _ _ _ ha (ih hl n)
theorem VRL.drop {G : Gh} {l : List AV} {m : List Value} (r : VRL G l m) (n : Nat) : VRL G (l.drop n) (m.drop n) := by
  induction l generalizing m n with
  | nil => cases r; simp; exact .nil
  | cons a l ih =>
    cases r with
    | cons _ v _ m ha hl =>
      cases n with
      | zero => simp; exact .cons _ _ _ _ ha hl
      | succ n => simpa using ih hl n
theorem VRL.map {G : Gh} {α : Type} {f : α → AV} {g : α → Value} (l : List α) (h : ∀ x ∈ l, VR G (f x) (g x)) : VRL G (l.map f) (l.map g) := by
  induction l with
  | nil => exact .nil
  | cons a l ih => exact .cons _ _ _ _ (h a (by simp)) (ih fun x hx => h x (by simp [hx]))
theorem VRI.append {G : Gh} {l l' : List AV} {b o : Nat} (r : VRI G l b o) (r' : VRI G l' b (o + l.length)) : VRI G (l ++ l') b o := by
  induction l generalizing o with
  | nil => exact r'
  | cons a l ih =>
    cases r with
    | cons _ v _ _ _ hI ha hl => exact .cons _ _ _ _ _ hI ha (ih hl (by simpa [Nat.add_assoc, Nat.add_comm 1] using r'))
theorem VRI.left {G : Gh} {l l' : List AV} {b o : Nat} (r : VRI G (l ++ l') b o) : VRI G l b o := by
  induction l generalizing o with
  | nil => exact .nil b o
  | cons a l ih => cases r with | cons _ v _ _ _ hI ha hl => exact .cons _ _ _ _ _ hI ha (ih hl)
theorem VRI.right {G : Gh} {l l' : List AV} {b o : Nat} (r : VRI G (l ++ l') b o) : VRI G l' b (o + l.length) := by
  induction l generalizing o with
  | nil => exact r
  | cons a l ih => cases r with | cons _ v _ _ _ hI ha hl => simpa [Nat.add_assoc, Nat.add_comm 1] using ih hl
theorem VRI.drop {G : Gh} {l : List AV} {b o : Nat} (r : VRI G l b o) (n : Nat) (hn : n ≤ l.length) : VRI G (l.drop n) b (o + n) := by
  have h : VRI G (l.take n ++ l.drop n) b o := by rwa [List.take_append_drop]
  have := h.right
  rwa [List.length_take, Nat.min_eq_left hn] at this
theorem VRI.drop' {G : Gh} {l : List AV} {b o : Nat} (r : VRI G l b o) (n : Nat) : VRI G (l.drop n) b (o + n) := by
  rcases Nat.lt_or_ge l.length n with h | h
  · rw [List.drop_eq_nil_of_le (by omega)]; exact .nil _ _
  · exact r.drop n h
theorem VRI.take {G : Gh} {l : List AV} {b o : Nat} (r : VRI G l b o) (n : Nat) : VRI G (l.take n) b o := by
  have h : VRI G (l.take n ++ l.drop n) b o := by rwa [List.take_append_drop]
  exact h.left
theorem VRI.get {G : Gh} {l : List AV} {b o : Nat} (r : VRI G l b o) {i : Nat} {a : AV} (h : l[i]? = some a) : ∃ v, G.I b (o + i) = some v ∧ VR G a v := by
  induction l generalizing o i with
  | nil => simp at h
  | cons x l ih =>
    cases r with
    | cons _ v _ _ _ hI ha hl =>
      cases i with
      | zero => simp at h; subst h; exact ⟨v, by simpa using hI, ha⟩
      | succ i => simpa [Nat.add_assoc, Nat.add_comm 1] using ih hl (by simpa using h)
/-- the values in the cells -/
theorem VRI.vals {G : Gh} {l : List AV} {b o : Nat} (r : VRI G l b o) : ∃ vs : List Value, VRL G l vs ∧ ∀ i v, vs[i]? = some v → G.I b (o + i) = some v := by
  induction l generalizing o with
  | nil => exact ⟨[], .nil, by simp⟩
  | cons a l ih =>
    cases r with
    | cons _ v _ _ _ hI ha hl =>
      obtain ⟨vs, h1, h2⟩ := ih hl
      refine ⟨v :: vs, .cons _ _ _ _ ha h1, fun i x hx => ?_⟩
      cases i with
      | zero => simp at hx; subst hx; simpa using hI
      | succ i => have := h2 i x (by simpa using hx); simpa [Nat.add_assoc, Nat.add_comm 1] using this
theorem VRI.of_vals {G : Gh} {l : List AV} {vs : List Value} (r : VRL G l vs) {b o : Nat} (h : ∀ i v, vs[i]? = some v → G.I b (o + i) = some v) : VRI G l b o := by
  induction l generalizing vs o with
  | nil => exact .nil b o
  | cons a l ih =>
    cases r with
    | cons _ v _ m ha hl =>
      refine .cons _ _ _ _ _ (by simpa using h 0 v (by simp)) ha (ih hl fun i x hx => ?_)
      have := h (i + 1) x (by simpa using hx)
      simpa [Nat.add_assoc, Nat.add_comm 1] using this

/-! ### cells -/
def oneV (v : Value) : Bool := match v with | .agg _ => false | .tuple _ => false | _ => true
theorem VR.one {G : Gh} {a : AV} {v : Value} (r : VR G a v) (h : a.isCell = true) : oneV v = true := by
  cases r <;> first | rfl | simp [AV.isCell] at h
theorem VR.cells {G : Gh} {a : AV} {v : Value} (r : VR G a v) {cs : List AV} (h : a.cells? = some cs) : VRL G cs v.cells.toList ∧ (∀ x ∈ v.cells.toList, oneV x = true) ∧ (∀ x ∈ cs, x.isCell = true) := by
  have one : ∀ (a : AV) (v : Value), VR G a v → a.isCell = true → VRL G [a] #[v].toList ∧ (∀ x ∈ #[v].toList, oneV x = true) ∧ (∀ x ∈ [a], x.isCell = true) := fun a v r hc =>
    ⟨.cons _ _ _ _ r .nil, by simp [r.one hc], by simp [hc]⟩
  cases a with
  | agg cs' =>
    simp only [AV.cells?] at h
    split at h
    · rename_i hall
      cases h
      cases r with
      | agg _ vs hl =>
        refine ⟨hl, ?_, by simpa using hall⟩
        show ∀ x ∈ vs.toList, oneV x = true
        intro x hx
        obtain ⟨i, hi⟩ := List.mem_iff_getElem?.1 hx
        have hlen := hl.length
        have hi' : i < cs.length := by
          have := (List.getElem?_eq_some_iff.1 hi).1; omega
        obtain ⟨w, hw, hr⟩ := hl.get (List.getElem?_eq_getElem hi')
        rw [hi] at hw
        cases hw
        exact hr.one ((List.all_eq_true.1 hall) _ (List.getElem_mem hi'))
    · cases h
  | junk => simp [AV.cells?] at h
  | undef => simp [AV.cells?] at h
  | tup cs' => simp [AV.cells?] at h
  | _ => simp only [AV.cells?, Option.some.injEq] at h; subst h; (have hv := one _ v r rfl); cases r <;> exact hv

theorem flatQ_append {a b : List AV} {x y : List AV} (h : flatQ a = some x) (k : flatQ b = some y) : flatQ (a ++ b) = some (x ++ y) := by
  induction a generalizing x with
  | nil => simp [flatQ] at h; subst h; simpa using k
  | cons e es ih =>
    simp only [flatQ] at h
    split at h
    · rename_i cs l hc hl
      cases h
      simp [flatQ, hc, ih hl, List.append_assoc]
    · cases h
theorem flatQ_split {a b : List AV} {z : List AV} (h : flatQ (a ++ b) = some z) : ∃ x y, flatQ a = some x ∧ flatQ b = some y ∧ z = x ++ y := by
  induction a generalizing z with
  | nil => exact ⟨[], z, rfl, h, rfl⟩
  | cons e es ih =>
    simp only [List.cons_append, flatQ] at h
    split at h
    · rename_i cs l hc hl
      cases h
      obtain ⟨x, y, h1, h2, rfl⟩ := ih hl
      exact ⟨cs ++ x, y, by simp [flatQ, hc, h1], h2, by simp⟩
    · cases h
theorem flatQ_len {l : List AV} {fl : List AV} (h : flatQ l = some fl) {sz : Nat} (hs : ∀ e ∈ l, ∀ cs, e.cells? = some cs → cs.length = sz) : fl.length = l.length * sz := by
  induction l generalizing fl with
  | nil => simp [flatQ] at h; subst h; simp
  | cons e es ih =>
    simp only [flatQ] at h
    split at h
    · rename_i cs l hc hl
      cases h
      have := ih hl fun e he => hs e (by simp [he])
      have := hs e (by simp) cs hc
      simp [*, Nat.add_mul]; omega
    · cases h
theorem sizesOk_mem {n : Nat} {l : List AV} : sizesOk n l = true ↔ ∀ e ∈ l, ∃ cs, e.cells? = some cs ∧ cs.length = n := by
  induction l with
  | nil => simp [sizesOk]
  | cons a l ih =>
    simp only [sizesOk, Bool.and_eq_true, ih, List.mem_cons, forall_eq_or_imp]
    cases a.cells? with
    | none => simp
    | some cs => simp
theorem sizesOk_append {n : Nat} {l m : List AV} : sizesOk n (l ++ m) = (sizesOk n l && sizesOk n m) := by
  induction l with
  | nil => simp [sizesOk]
  | cons a l ih => simp [sizesOk, ih, Bool.and_assoc]
theorem flatQ_sizes {n : Nat} {l : List AV} (h : sizesOk n l = true) : ∃ fl, flatQ l = some fl ∧ fl.length = l.length * n := by
  induction l with
  | nil => exact ⟨[], rfl, by simp⟩
  | cons a l ih =>
    obtain ⟨cs, h1, h2⟩ := sizesOk_mem.1 h a (by simp)
    simp only [sizesOk, Bool.and_eq_true] at h
    obtain ⟨fl, h3, h4⟩ := ih h.2
    exact ⟨cs ++ fl, by simp [flatQ, h1, h3], by simp [h2, h4, Nat.add_mul]; omega⟩
theorem flatQ_len' {l fl : List AV} (h : flatQ l = some fl) {n : Nat} (hs : sizesOk n l = true) : fl.length = l.length * n := by
  obtain ⟨x, h1, h2⟩ := flatQ_sizes hs
  rw [h] at h1; cases h1; exact h2
/-- the i-th element's cells, in the row -/
theorem VRI.elem {G : Gh} {l fl : List AV} {n b o i : Nat} {a : AV} {cs : List AV} (h : flatQ l = some fl) (hs : sizesOk n l = true) (hv : VRI G fl b o) (ha : l[i]? = some a) (hc : a.cells? = some cs) : VRI G cs b (o + i * n) := by
  induction l generalizing fl i o with
  | nil => simp at ha
  | cons x l ih =>
    obtain ⟨c, h1, h2⟩ := sizesOk_mem.1 hs x (by simp)
    simp only [sizesOk, Bool.and_eq_true] at hs
    simp only [flatQ, h1] at h
    split at h
    · rename_i c' m e1 e2
      cases e1
      cases h
      cases i with
      | zero => simp at ha; subst ha; rw [h1] at hc; cases hc; simpa using hv.left
      | succ i =>
        have := ih e2 hs.2 hv.right (by simpa using ha)
        rw [h2] at this
        rwa [show o + (i + 1) * n = o + n + i * n by rw [Nat.add_mul]; omega]
    · cases h
theorem flatQ_isCell {l : List AV} {fl : List AV} (h : flatQ l = some fl) : ∀ x ∈ fl, x.isCell = true := by
  induction l generalizing fl with
  | nil => simp [flatQ] at h; subst h; simp
  | cons e es ih =>
    simp only [flatQ] at h
    split at h
    · rename_i cs l hc hl
      cases h
      intro x hx
      rcases List.mem_append.1 hx with hx | hx
      · cases e <;> simp only [AV.cells?] at hc <;> first | (cases hc; simp at hx; subst hx; rfl) | (split at hc <;> simp_all) | cases hc
      · exact ih hl x hx
    · cases h

/-! ### constants -/
theorem ofC0_VR (G : Gh) (v : Value) : VR G (ofC0 v) v := by
  unfold ofC0
  split <;> first | exact .bool _ | exact .int _ _ | exact .str _ | exact .nilp | exact .nils _ _ (by simp) | exact .nilif | exact .junk _
theorem ofC_VR (G : Gh) (v : Value) : VR G (ofC v) v := by
  unfold ofC
  split
  · rename_i cs
    refine .agg _ _ ?_
    have := VRL.map (G := G) (f := ofC0) (g := id) cs.toList fun x _ => ofC0_VR G x
    simpa using this
  · exact ofC0_VR G v
end Go.Proofs.YtmhidempoabehaaGreatDoor.AE
/- What the world holds when a call begins: the cell of errors.errorType. No condition. -/
namespace Go.Proofs.YtmhidempoabehaaGreatDoor.AE
open Go Go.RowKit
/-- the one listed package-level variable, a type's handle -/
def GL (w0 : World) (B : Nat) : Prop := 0 < B ∧ w0.cell? ⟨0, 0, none⟩ = some (.iface 111 (.agg #[.pointer (some ⟨2, 27, none⟩)]))
theorem GL_below {w0 w : World} {B : Nat} (h : GL w0 B) (hb : Below B w0 w) : w.cell? ⟨0, 0, none⟩ = some (.iface 111 (.agg #[.pointer (some ⟨2, 27, none⟩)])) := by
  rw [← h.2]
  exact World.cell?_of_block (hb.block 0 h.1)
end Go.Proofs.YtmhidempoabehaaGreatDoor.AE
/- What holds of the world beside an evaluation, and how memory is read, written and made under it. No condition. -/
namespace Go.Proofs.YtmhidempoabehaaGreatDoor.AE
set_option linter.unusedVariables false
set_option linter.unusedSimpArgs false
open Go Go.RowKit

structure Inv (w0 : World) (B : Nat) (G : Gh) (S : St) (w : World) : Prop where
  gl : GL w0 B
  below : Below B w0 w
  base : B ≤ w.heap.size
  imm : ∀ b o v, G.I b o = some v → w.cell? ⟨b, o, none⟩ = some v
  fr : ∀ t, G.fr t = S.T[t]?
  box : ∀ i bx, S.H[i]? = some bx → ∃ b vs, G.phi i = some b ∧ B ≤ b ∧ w.heap[b]? = some (.cells vs bx.ty (0, 0)) ∧ VRL G bx.cs vs.toList ∧ (∀ o, G.I b o = none) ∧
    (∀ x ∈ vs.toList, oneV x = true) ∧ (∀ x ∈ bx.cs, x.isCell = true) ∧ AV.sealedL bx.cs = true
  phid : ∀ i b, G.phi i = some b → i < S.H.length
  phij : ∀ i j b, G.phi i = some b → G.phi j = some b → i = j
  tok : ∀ t n, S.T[t]? = some n → ∃ b m vs ty fz, G.tau t = some (b, m) ∧ B ≤ b ∧ w.heap[b]? = some (.cells vs ty fz) ∧ m ≤ vs.size ∧ (∀ o, n ≤ o → G.I b o = none) ∧
    (∀ o, o < m → w.frozen? ⟨b, o, none⟩ = false) ∧ (∀ i, G.phi i ≠ some b)
  taud : ∀ t x, G.tau t = some x → t < S.T.length
  tauj : ∀ t u b m m', G.tau t = some (b, m) → G.tau u = some (b, m') → t = u

structure LInv (B : Nat) (G : Gh) (w : World) (dep : Nat) (b : Nat → Nat × List AV) : Prop where
  box : ∀ d, (b d).1 ≠ 0 → ∃ k vs ty, G.nu dep (b d).1 = some k ∧ B ≤ k ∧ w.heap[k]? = some (.cells vs ty (0, 0)) ∧ VRL G (b d).2 vs.toList ∧ (∀ o, G.I k o = none) ∧
    (∀ x ∈ vs.toList, oneV x = true) ∧ (∀ x ∈ (b d).2, x.isCell = true) ∧ (∀ i, G.phi i ≠ some k) ∧ (∀ t m, G.tau t ≠ some (k, m))
  inj : ∀ d e k, (b d).1 ≠ 0 → (b e).1 ≠ 0 → G.nu dep (b d).1 = some k → G.nu dep (b e).1 = some k → d = e

/-- from (G, w) on: what was known is known, what was not to be written stands -/
structure Ext (G : Gh) (w : World) (G' : Gh) (w' : World) : Prop where
  le : Gle G G'
  size : w.heap.size ≤ w'.heap.size
  phi : ∀ i b, G'.phi i = some b → G.phi i = some b ∨ w.heap.size ≤ b
  tau : ∀ t x, G'.tau t = some x → G.tau t = some x ∨ w.heap.size ≤ x.1
  I : ∀ b o v, G'.I b o = some v → G.I b o = some v ∨ w.heap.size ≤ b ∨ ∃ t m n, G.tau t = some (b, m) ∧ G.fr t = some n ∧ n ≤ o
  keep : ∀ b, b < w.heap.size → (∀ i, G.phi i ≠ some b) → (∀ t m, G.tau t ≠ some (b, m)) → w'.heap[b]? = w.heap[b]?

theorem Ext.refl (G : Gh) (w : World) : Ext G w G w := ⟨.refl G, Nat.le_refl _, fun _ _ h => .inl h, fun _ _ h => .inl h, fun _ _ _ h => .inl h, fun _ _ _ _ => rfl⟩
theorem Ext.trans {w0 : World} {B : Nat} {S : St} {G G1 G2 : Gh} {w w1 w2 : World} (hi : Inv w0 B G S w) (h : Ext G w G1 w1) (k : Ext G1 w1 G2 w2) : Ext G w G2 w2 where
  le := h.le.trans k.le
  size := Nat.le_trans h.size k.size
  phi i b e := by
    rcases k.phi i b e with e | e
    · exact h.phi i b e
    · exact .inr (Nat.le_trans h.size e)
  tau t x e := by
    rcases k.tau t x e with e | e
    · exact h.tau t x e
    · exact .inr (Nat.le_trans h.size e)
  I b o v e := by
    rcases k.I b o v e with e | e | ⟨t, m, n, e1, e2, e3⟩
    · exact h.I b o v e
    · exact .inr (.inl (Nat.le_trans h.size e))
    · rcases h.tau t _ e1 with e4 | e4
      · have ht := hi.taud t _ e4
        have hf : G.fr t = some (S.T[t]) := by rw [hi.fr]; simp [ht]
        obtain ⟨n', e5, e6, _⟩ := h.le.fr t _ hf
        rw [e2] at e5
        cases e5
        exact .inr (.inr ⟨t, m, _, e4, hf, by omega⟩)
      · exact .inr (.inl e4)
  keep b hb h1 h2 := by
    have e := h.keep b hb h1 h2
    rw [← e]
    refine k.keep b (Nat.lt_of_lt_of_le hb h.size) (fun i e => ?_) (fun t m e => ?_)
    · rcases h.phi i b e with e | e
      · exact h1 i e
      · omega
    · rcases h.tau t _ e with e | e
      · exact h2 t m e
      · simp at e; omega

theorem LInv.ext {B : Nat} {G G' : Gh} {w w' : World} {dep : Nat} {b : Nat → Nat × List AV} (h : LInv B G w dep b) (e : Ext G w G' w') : LInv B G' w' dep b where
  box d hd := by
    obtain ⟨k, vs, ty, h1, h2, h3, h4, h5, h6, h7, h8, h9⟩ := h.box d hd
    have hk : k < w.heap.size := by
      rcases Nat.lt_or_ge k w.heap.size with h' | h'
      · exact h'
      · simp [Array.getElem?_eq_none h'] at h3
    refine ⟨k, vs, ty, e.le.nu _ _ _ h1, h2, by rw [e.keep k hk h8 h9]; exact h3, h4.mono e.le, fun o => ?_, h6, h7, fun i hi => ?_, fun t m hm => ?_⟩
    · cases hI : G'.I k o with
      | none => rfl
      | some v =>
        rcases e.I k o v hI with h' | h' | ⟨t, m, n, h', _, _⟩
        · rw [h5 o] at h'; cases h'
        · omega
        · exact absurd h' (h9 t m)
    · rcases e.phi i k hi with h' | h'
      · exact h8 i h'
      · omega
    · rcases e.tau t _ hm with h' | h'
      · exact h9 t m h'
      · simp at h'; omega
  inj d f k hd hf e1 e2 := by
    obtain ⟨k1, _, _, h1, _⟩ := h.box d hd
    obtain ⟨k2, _, _, h2, _⟩ := h.box f hf
    have a1 := e.le.nu _ _ _ h1
    have a2 := e.le.nu _ _ _ h2
    rw [e1] at a1; cases a1
    rw [e2] at a2; cases a2
    exact h.inj d f k hd hf h1 h2

/-! ### the world -/
theorem lt_of_heap {w : World} {k : Nat} {o : Obj} (h : w.heap[k]? = some o) : k < w.heap.size := by
  rcases Nat.lt_or_ge k w.heap.size with h' | h'
  · exact h'
  · simp [Array.getElem?_eq_none h'] at h
theorem cell_of_heap {w : World} {k o : Nat} {vs : Array Value} {ty : TypeId} {fz : Nat × Nat} (h : w.heap[k]? = some (.cells vs ty fz)) : w.cell? ⟨k, o, none⟩ = vs[o]? := by
  simp [World.cell?, h]
theorem frozen_of_heap {w : World} {k o : Nat} {vs : Array Value} {ty : TypeId} (h : w.heap[k]? = some (.cells vs ty (0, 0))) : w.frozen? ⟨k, o, none⟩ = false := by
  simp [World.frozen?, h]
theorem add_none (b o n : Nat) : (⟨b, o, none⟩ : Addr).add n = ⟨b, o + n, none⟩ := by
  unfold Addr.add
  split
  · rename_i h; subst h; rfl
  · rfl

theorem run_loadCells_at (P : Program) (w : World) (b o : Nat) (vs : List Value) (h : ∀ j v, vs[j]? = some v → w.cell? ⟨b, o + j, none⟩ = some v) :
    (loadCells ⟨b, o, none⟩ vs.length).run P w = .ok vs.toArray w :=
  run_loadCells_list w _ vs fun j v hj => by rw [add_none]; exact h j v hj
theorem run_underlying' (P : Program) (w : World) (t : TypeId) (d : TypeDesc) (h : P.underlying t = some d) : (underlying t).run P w = .ok d w := by
  simp [underlying, h]
theorem run_isAgg' (P : Program) (w : World) (t : TypeId) (h : (P.underlying t).isSome) : (isAgg t).run P w = .ok (aggQ P t) w := by
  obtain ⟨d, hd⟩ := Option.isSome_iff_exists.1 h
  unfold isAgg
  simp only [Sem.run_bind, run_underlying' P w t d hd, Result.andThen_ok, aggQ, hd]
  cases d <;> rfl
theorem info_of_underlying {P : Program} {t : TypeId} (h : (P.underlying t).isSome) : ∃ i, P.info? t = some i := by
  unfold Program.underlying at h
  cases hi : P.info? t with
  | none => simp [hi] at h
  | some i => exact ⟨i, rfl⟩
theorem run_sizeOf' (P : Program) (w : World) (t : TypeId) (i : TypeInfo) (h : P.info? t = some i) : (sizeOf t).run P w = .ok (P.cellsOf t) w := by
  simp [sizeOf, typeInfo, h, Program.cellsOf]

/-- cells of the world that stand for these -/
def Cells (G : Gh) (w : World) (cs : List AV) (b o : Nat) : Prop := ∃ vs, VRL G cs vs ∧ ∀ j v, vs[j]? = some v → w.cell? ⟨b, o + j, none⟩ = some v

theorem Cells.of_imm {w0 : World} {B : Nat} {G : Gh} {S : St} {w : World} (hi : Inv w0 B G S w) {cs : List AV} {b o : Nat} (h : VRI G cs b o) : Cells G w cs b o := by
  obtain ⟨vs, h1, h2⟩ := h.vals
  exact ⟨vs, h1, fun j v hj => hi.imm _ _ _ (h2 j v hj)⟩
theorem Cells.of_heap {G : Gh} {w : World} {k : Nat} {vs : Array Value} {ty : TypeId} {fz : Nat × Nat} (h : w.heap[k]? = some (.cells vs ty fz)) {cs : List AV} (hr : VRL G cs vs.toList) (off : Nat) :
    Cells G w (cs.drop off) k off :=
  ⟨vs.toList.drop off, hr.drop off, fun j v hj => by rw [cell_of_heap h]; simpa using hj⟩

theorem rdc_load {P : Program} {G : Gh} {w : World} {t : TypeId} {cs : List AV} {b o : Nat} {r : AV} (hu : (P.underlying t).isSome) (h : Cells G w cs b o)
    (hr : rdc (aggQ P t) (P.cellsOf t) cs = some r) : ∃ v, (loadVar t ⟨b, o, none⟩).run P w = .ok v w ∧ VR G r v := by
  obtain ⟨vs, h1, h2⟩ := h
  obtain ⟨i, hi⟩ := info_of_underlying hu
  unfold rdc at hr
  unfold loadVar
  simp only [Sem.run_bind, run_isAgg' P w t hu, Result.andThen_ok]
  cases ha : aggQ P t with
  | true =>
    simp only [ha, if_true] at hr
    split at hr
    · rename_i hle
      cases hr
      have hlen := h1.length
      have hl : (vs.take (P.cellsOf t)).length = P.cellsOf t := by simp; omega
      have := run_loadCells_at P w b o (vs.take (P.cellsOf t)) fun j v hj => by
        rw [List.getElem?_take] at hj
        split at hj
        · exact h2 j v hj
        · cases hj
      rw [hl] at this
      simp only [if_true, Sem.run_bind, run_sizeOf' P w t i hi, Result.andThen_ok, this, Sem.run_pure]
      exact ⟨_, rfl, .agg _ _ (by simpa using h1.take _)⟩
    · cases hr
  | false =>
    simp only [ha, Bool.false_eq_true, if_false] at hr
    cases cs with
    | nil => cases hr
    | cons c cs =>
      simp at hr
      subst hr
      cases h1 with
      | cons _ v _ m hv _ =>
        have := h2 0 v (by simp)
        simp only [Nat.add_zero] at this
        simp only [Bool.false_eq_true, if_false, run_load, this]
        exact ⟨v, rfl, hv⟩

/-! ### stores -/
theorem oneV_oneCell (v : Value) : oneV v = v.oneCell' := by cases v <;> rfl
theorem run_store_at (P : Program) (w : World) (b o : Nat) (v : Value) (hv : oneV v = true) {u : Value} (hc : w.cell? ⟨b, o, none⟩ = some u) (hf : w.frozen? ⟨b, o, none⟩ = false) :
    (store ⟨b, o, none⟩ v).run P w = .ok () (w.setCell ⟨b, o, none⟩ v) := by
  rw [run_store P w _ v .plain (by rw [← oneV_oneCell]; exact hv)]
  simp [hc, hf]
/-- the cells from o on, one by one -/
def setL (b : Nat) : Nat → List Value → World → World
  | _, [], w => w
  | o, v :: l, w => setL b (o + 1) l (w.setCell ⟨b, o, none⟩ v)
theorem run_storeCells_at (P : Program) (b o : Nat) : ∀ (vs : List Value) (i : Nat) (w : World), (∀ x ∈ vs, oneV x = true) → (∀ j, j < vs.length → (w.cell? ⟨b, o + i + j, none⟩).isSome = true) →
    (∀ j, j < vs.length → w.frozen? ⟨b, o + i + j, none⟩ = false) → (storeCells ⟨b, o, none⟩ vs i).run P w = .ok () (setL b (o + i) vs w)
  | [], i, w, _, _, _ => rfl
  | v :: l, i, w, h1, h2, h3 => by
    obtain ⟨u, hu⟩ := Option.isSome_iff_exists.1 (h2 0 (by simp))
    simp only [storeCells, Sem.run_bind, add_none, setL]
    rw [run_store_at P w b (o + i) v (h1 v (by simp)) hu (h3 0 (by simp))]
    simp only [Result.andThen_ok]
    have := run_storeCells_at P b o l (i + 1) (w.setCell ⟨b, o + i, none⟩ v) (fun x hx => h1 x (by simp [hx])) (fun j hj => ?_) (fun j hj => ?_)
    · rw [show o + (i + 1) = o + i + 1 by omega] at this; exact this
    · have := h2 (j + 1) (by simp; omega)
      rw [World.cell?_setCell_other w _ _ _ (by simp; omega)]
      rwa [show o + i + (j + 1) = o + (i + 1) + j by omega] at this
    · rw [World.frozen?_setCell]
      have := h3 (j + 1) (by simp; omega)
      rwa [show o + i + (j + 1) = o + (i + 1) + j by omega] at this
theorem setL_heap_other {b : Nat} : ∀ (vs : List Value) (o : Nat) (w : World) (k : Nat), k ≠ b → (setL b o vs w).heap[k]? = w.heap[k]?
  | [], _, _, _, _ => rfl
  | v :: l, o, w, k, h => by
    rw [setL, setL_heap_other l (o + 1) _ k h]
    exact Below.heap_setCell _ _ _ _ h
theorem setL_size {b : Nat} : ∀ (vs : List Value) (o : Nat) (w : World), (setL b o vs w).heap.size = w.heap.size
  | [], _, _ => rfl
  | v :: l, o, w => by rw [setL, setL_size l]; simp
theorem heap_setCell_same {w : World} {b o : Nat} {v : Value} {vs : Array Value} {ty : TypeId} {fz : Nat × Nat} (h : w.heap[b]? = some (.cells vs ty fz)) :
    (w.setCell ⟨b, o, none⟩ v).heap[b]? = some (.cells (vs.setIfInBounds o v) ty fz) := by
  simp [World.setCell, Array.getElem?_modify, h]
/-- a row with some of its cells anew -/
def putL : Nat → List Value → Array Value → Array Value
  | _, [], vs => vs
  | o, v :: l, vs => putL (o + 1) l (vs.setIfInBounds o v)
theorem setL_heap_same {b : Nat} : ∀ (l : List Value) (o : Nat) (w : World) (vs : Array Value) (ty : TypeId) (fz : Nat × Nat), w.heap[b]? = some (.cells vs ty fz) →
    (setL b o l w).heap[b]? = some (.cells (putL o l vs) ty fz)
  | [], _, _, _, _, _, h => h
  | v :: l, o, w, vs, ty, fz, h => by
    rw [setL, putL]
    exact setL_heap_same l (o + 1) _ _ ty fz (heap_setCell_same h)
theorem setL_below {b B : Nat} {w0 : World} (hb : B ≤ b) : ∀ (l : List Value) (o : Nat) (w : World), Below B w0 w → Below B w0 (setL b o l w)
  | [], _, _, h => h
  | v :: l, o, w, h => setL_below hb l (o + 1) _ (h.setCell (p := ⟨b, o, none⟩) hb v)
theorem putL_toList : ∀ (l : List Value) (o : Nat) (vs : Array Value), o + l.length ≤ vs.size → (putL o l vs).toList = vs.toList.take o ++ (l ++ vs.toList.drop (o + l.length))
  | [], o, vs, h => by simp [putL]
  | v :: l, o, vs, h => by
    have hl : o + 1 + l.length ≤ (vs.setIfInBounds o v).size := by simp; simp at h; omega
    rw [putL, putL_toList l (o + 1) _ hl]
    simp only [List.length_cons] at h ⊢
    simp only [Array.toList_setIfInBounds]
    apply List.ext_getElem?
    intro j
    have hvl : vs.toList.length = vs.size := by simp
    simp only [List.getElem?_append, List.length_take, List.length_set, List.getElem?_take, List.getElem?_set, List.getElem?_drop, List.getElem?_cons, hvl]
    grind
theorem putL_size : ∀ (l : List Value) (o : Nat) (vs : Array Value), (putL o l vs).size = vs.size
  | [], _, _ => rfl
  | v :: l, o, vs => by rw [putL, putL_size l]; simp
end Go.Proofs.YtmhidempoabehaaGreatDoor.AE
/- Memory operations of the evaluator are those of the model. No condition. -/
namespace Go.Proofs.YtmhidempoabehaaGreatDoor.AE
set_option linter.unusedVariables false
set_option linter.unusedSimpArgs false
open Go Go.RowKit

theorem Below.base_mono {B : Nat} {w0 w w' : World} (h : Below B w0 w) (hs : w.heap.size ≤ w'.heap.size) (hk : ∀ b, b < B → w'.heap[b]? = w.heap[b]?) (ho : w'.os = w.os) (ht : w'.tape = w.tape) (hp : w'.output = w.output) :
    Below B w0 w' := h.trans ⟨ho, ht, hp, hs, hk⟩

/-- Blocks of X may turn; nothing that is known of lies there. -/
theorem Inv.frame {w0 : World} {B : Nat} {G G' : Gh} {S : St} {w w' : World} (hi : Inv w0 B G S w) (X : Nat → Prop)
    (hX : ∀ b, X b → (∀ i, G.phi i ≠ some b) ∧ (∀ t m, G.tau t ≠ some (b, m)) ∧ ∀ o, G.I b o = none)
    (hs : ∀ b, b < w.heap.size → ¬ X b → w'.heap[b]? = w.heap[b]?) (hz : w.heap.size ≤ w'.heap.size) (hb : Below B w0 w')
    (e1 : G'.I = G.I) (e2 : G'.phi = G.phi) (e3 : G'.tau = G.tau) (e4 : G'.fr = G.fr) (e5 : ∀ d v b, G.nu d v = some b → G'.nu d v = some b) : Inv w0 B G' S w' := by
  have le : Gle G G' := ⟨fun b o v h => by rw [e1]; exact h, fun i b h => by rw [e2]; exact h, e5, fun t n h => ⟨n, by rw [e4]; exact h, Nat.le_refl _, fun _ => by rw [e3]⟩⟩
  have hk : ∀ b o, b < w.heap.size → w'.heap[b]? = o → True := fun _ _ _ _ => trivial
  refine ⟨hi.gl, hb, Nat.le_trans hi.base hz, fun b o v h => ?_, fun t => by rw [e4]; exact hi.fr t, fun i bx h => ?_, fun i b h => ?_, fun i j b h1 h2 => ?_, fun t n h => ?_, fun t x h => ?_, fun t u b m m' h1 h2 => ?_⟩
  · rw [e1] at h
    have hc := hi.imm b o v h
    have hlt := World.block_lt_of_cell? w _ hc
    have hx : ¬ X b := fun hx => by rw [(hX b hx).2.2 o] at h; cases h
    rw [World.cell?_of_block (w := w) (w' := w') (hs b hlt hx)]
    exact hc
  · obtain ⟨b, vs, h1, h2, h3, h4, h5, h6, h7, h8⟩ := hi.box i bx h
    refine ⟨b, vs, by rw [e2]; exact h1, h2, ?_, h4.mono le, fun o => by rw [e1]; exact h5 o, h6, h7, h8⟩
    rw [hs b (lt_of_heap h3) fun hx => (hX b hx).1 i h1]
    exact h3
  · rw [e2] at h; exact hi.phid i b h
  · rw [e2] at h1 h2; exact hi.phij i j b h1 h2
  · obtain ⟨b, m, vs, ty, fz, h1, h2, h3, h4, h5, h6, h7⟩ := hi.tok t n h
    have hb' := hs b (lt_of_heap h3) fun hx => (hX b hx).2.1 t m h1
    refine ⟨b, m, vs, ty, fz, by rw [e3]; exact h1, h2, by rw [hb']; exact h3, h4, fun o ho => by rw [e1]; exact h5 o ho, fun o ho => ?_, fun i => by rw [e2]; exact h7 i⟩
    rw [World.frozen?_of_block (w := w) (w' := w') hb']
    exact h6 o ho
  · rw [e3] at h; exact hi.taud t x h
  · rw [e3] at h1 h2; exact hi.tauj t u b m m' h1 h2

/-- what does not turn within a frame: the call's beginning, the frame's own -/
structure Fix where
  w0 : World
  B : Nat
  Ge : Gh
  we : World
  Se : St
  cx : Ctx
  ie : Inv w0 B Ge Se we
  /-- what has been deferred -/
  dl : List Deferred := []
  /-- the ghost at some point on the way -/
  Gm : Gh := Ge

structure Pre (F : Fix) (fs : FS) (G : Gh) (w : World) : Prop where
  inv : Inv F.w0 F.B G fs.S w
  ext : Ext F.Ge F.we G w
  loc : LInv F.we.heap.size G w F.cx.dep fs.b

structure Post (F : Fix) (c i : Nat) (G : Gh) (b' : Nat → Nat × List AV) (S' : St) (v : AV) (G' : Gh) (w' : World) (v' : Value) : Prop where
  vr : VR G' v v'
  inv : Inv F.w0 F.B G' S' w'
  le : Gle G G'
  ext : Ext F.Ge F.we G' w'
  loc : LInv F.we.heap.size G' w' F.cx.dep b'
  nu : ∀ d x, G'.nu d x ≠ G.nu d x → d = F.cx.dep ∧ x = c + i + 1

theorem Post.same {F : Fix} {c i : Nat} {G : Gh} {w : World} {fs : FS} {v : AV} {v' : Value} (hp : Pre F fs G w) (h : VR G v v') :
    Post F c i G fs.b fs.S v G w v' := ⟨h, hp.inv, .refl G, hp.ext, hp.loc, fun _ _ h => absurd rfl h⟩
theorem Ext.other {Ge G : Gh} {we w w' : World} (h : Ext Ge we G w) (hz : w.heap.size ≤ w'.heap.size) (hs : ∀ b, b < we.heap.size → (∀ i, Ge.phi i ≠ some b) → (∀ t m, Ge.tau t ≠ some (b, m)) → w'.heap[b]? = w.heap[b]?) : Ext Ge we G w' :=
  ⟨h.le, Nat.le_trans h.size hz, h.phi, h.tau, h.I, fun b hb h1 h2 => (hs b hb h1 h2).trans (h.keep b hb h1 h2)⟩

theorem heap_alloc_lt (w : World) (o : Obj) {b : Nat} (h : b < w.heap.size) : (w.alloc o).heap[b]? = w.heap[b]? := Below.heap_alloc w o b h
theorem heap_alloc_at (w : World) (o : Obj) : (w.alloc o).heap[w.heap.size]? = some o := by
  show (w.heap.push o)[w.heap.size]? = some o
  simp
theorem below_alloc' {B : Nat} {w0 w : World} (h : Below B w0 w) (hb : B ≤ w.heap.size) (o : Obj) : Below B w0 (w.alloc o) := h.alloc hb o

/-- a new local box -/
theorem box_local {F : Fix} {i d : Nat} {G : Gh} {w : World} {fs : FS} {ty : TypeId} {cs : List AV} {vs : Array Value}
    (hp : Pre F fs G w) (hn : G.nu F.cx.dep (fs.c + i + 1) = none) (hr : VRL G cs vs.toList) (h1 : ∀ x ∈ vs.toList, oneV x = true) (h2 : ∀ x ∈ cs, x.isCell = true) :
    ∃ G', Post F fs.c i G (upd d (fs.c + i + 1, cs) fs.b) fs.S (.loc F.cx.dep d (fs.c + i + 1) 0) G' (w.alloc (.cells vs ty)) (.pointer (some ⟨w.heap.size, 0, none⟩)) := by
  obtain ⟨hi, he0, hl⟩ := hp
  let cx := F.cx
  let G' : Gh := { G with nu := fun e x => if e = cx.dep ∧ x = fs.c + i + 1 then some w.heap.size else G.nu e x }
  have hnu : ∀ e x b, G.nu e x = some b → G'.nu e x = some b := fun e x b h => by
    show (if e = cx.dep ∧ x = fs.c + i + 1 then some w.heap.size else G.nu e x) = some b
    split
    · rename_i hc; rw [hc.1, hc.2, hn] at h; cases h
    · exact h
  have le : Gle G G' := ⟨fun _ _ _ h => h, fun _ _ h => h, hnu, fun t n h => ⟨n, h, Nat.le_refl _, fun _ => rfl⟩⟩
  have ext : Ext G w G' (w.alloc (.cells vs ty)) := ⟨le, by simp, fun _ _ h => .inl h, fun _ _ h => .inl h, fun _ _ _ h => .inl h, fun b hb _ _ => heap_alloc_lt w _ hb⟩
  have hnew : G'.nu cx.dep (fs.c + i + 1) = some w.heap.size := by simp [G']
  refine ⟨G', .loc _ _ _ _ _ hnew, hi.frame (fun _ => False) (fun _ h => h.elim) (fun b hb _ => heap_alloc_lt w _ hb) (by simp) (hi.below.alloc hi.base _) rfl rfl rfl rfl hnu, le, he0.trans F.ie ext, ⟨fun e he => ?_, fun e f k he hf k1 k2 => ?_⟩, fun e x hx => ?_⟩
  · by_cases hed : e = d
    · subst hed
      refine ⟨w.heap.size, vs, ty, by simpa [upd] using hnew, he0.size, heap_alloc_at w _, by simpa [upd] using hr.mono le, fun o => ?_, h1, by simpa [upd] using h2, fun j hj => ?_, fun t m hm => ?_⟩
      · cases hI : G.I w.heap.size o with
        | none => rfl
        | some v => have := World.block_lt_of_cell? w _ (hi.imm _ _ _ hI); simp at this
      · have hd := hi.phid j _ hj
        obtain ⟨b, vs', k1, _, k3, _⟩ := hi.box j _ (List.getElem?_eq_getElem hd)
        rw [show G'.phi = G.phi from rfl, k1] at hj; cases hj
        have := lt_of_heap k3; omega
      · have hd := hi.taud t _ hm
        obtain ⟨b, m', vs', ty', fz, k1, _, k3, _⟩ := hi.tok t _ (List.getElem?_eq_getElem hd)
        rw [show G'.tau = G.tau from rfl, k1] at hm; cases hm
        have := lt_of_heap k3; omega
    · simp only [upd, hed, if_false] at he ⊢
      exact (hl.ext ext).box e he
  · by_cases hed : e = d
    · by_cases hfd : f = d
      · rw [hed, hfd]
      · subst hed
        simp only [upd, hfd, if_false] at hf k2
        simp only [upd, if_true] at k1
        rw [hnew] at k1; cases k1
        obtain ⟨k, vs', ty', k3, _, k5, _⟩ := hl.box f hf
        have := hnu _ _ _ k3
        rw [k2] at this; cases this
        have := lt_of_heap k5; omega
    · by_cases hfd : f = d
      · subst hfd
        simp only [upd, hed, if_false] at he k1
        simp only [upd, if_true] at k2
        rw [hnew] at k2; cases k2
        obtain ⟨k, vs', ty', k3, _, k5, _⟩ := hl.box e he
        have := hnu _ _ _ k3
        rw [k1] at this; cases this
        have := lt_of_heap k5; omega
      · simp only [upd, hed, hfd, if_false] at he hf k1 k2
        exact (hl.ext ext).inj e f k he hf k1 k2
  · by_cases hc : e = cx.dep ∧ x = fs.c + i + 1
    · exact hc
    · exact absurd (by show (if _ then _ else _) = _; rw [if_neg hc]) hx

/-- a new box outside -/
theorem box_heap {F : Fix} {i : Nat} {G : Gh} {w : World} {fs : FS} {ty : TypeId} {cs : List AV} {vs : Array Value}
    (hp : Pre F fs G w) (hr : VRL G cs vs.toList) (h1 : ∀ x ∈ vs.toList, oneV x = true) (h2 : ∀ x ∈ cs, x.isCell = true) (hs : AV.sealedL cs = true) :
    ∃ G', Post F fs.c i G fs.b { fs.S with H := fs.S.H ++ [⟨ty, cs⟩] } (.ptr fs.S.H.length 0) G' (w.alloc (.cells vs ty)) (.pointer (some ⟨w.heap.size, 0, none⟩)) := by
  obtain ⟨hi, he0, hl⟩ := hp
  let G' : Gh := { G with phi := fun e => if e = fs.S.H.length then some w.heap.size else G.phi e }
  have hph : ∀ e b, G.phi e = some b → G'.phi e = some b := fun e b h => by
    show (if e = fs.S.H.length then some w.heap.size else G.phi e) = some b
    split
    · rename_i hc; have := hi.phid e b h; omega
    · exact h
  have le : Gle G G' := ⟨fun _ _ _ h => h, hph, fun _ _ _ h => h, fun t n h => ⟨n, h, Nat.le_refl _, fun _ => rfl⟩⟩
  have hphi : ∀ e b, G'.phi e = some b → G.phi e = some b ∧ b < w.heap.size ∨ e = fs.S.H.length ∧ b = w.heap.size := fun e b h => by
    by_cases hc : e = fs.S.H.length
    · have : G'.phi e = some w.heap.size := by simp [G', hc]
      rw [h] at this; cases this; exact .inr ⟨hc, rfl⟩
    · have h' : G.phi e = some b := by simpa [G', hc] using h
      have hd := hi.phid e _ h'
      obtain ⟨b', vs', k1, _, k3, _⟩ := hi.box e _ (List.getElem?_eq_getElem hd)
      rw [h'] at k1; cases k1
      exact .inl ⟨h', lt_of_heap k3⟩
  have ext : Ext G w G' (w.alloc (.cells vs ty)) := ⟨le, by simp, fun e b h => (hphi e b h).elim (fun h => .inl h.1) (fun h => .inr (by omega)), fun _ _ h => .inl h, fun _ _ _ h => .inl h, fun b hb _ _ => heap_alloc_lt w _ hb⟩
  have hnoI : ∀ o, G.I w.heap.size o = none := fun o => by
    cases hI : G.I w.heap.size o with
    | none => rfl
    | some v => have := World.block_lt_of_cell? w _ (hi.imm _ _ _ hI); simp at this
  refine ⟨G', .ptr _ _ _ (by simp [G']), ⟨hi.gl, hi.below.alloc hi.base _, Nat.le_trans hi.base (by simp), fun b o v h => ?_, hi.fr, fun e bx h => ?_, fun e b h => ?_, fun e f b k1 k2 => ?_, fun t n h => ?_, hi.taud, hi.tauj⟩, le, he0.trans F.ie ext, hl.ext ext, fun _ _ h => absurd rfl h⟩
  · have hc := hi.imm b o v h
    rw [World.cell?_alloc_lt w _ _ (World.block_lt_of_cell? w _ hc)]
    exact hc
  · rw [List.getElem?_append] at h
    split at h
    · obtain ⟨b, vs', k1, k2, k3, k4, k5, k6, k7, k8⟩ := hi.box e bx h
      exact ⟨b, vs', hph _ _ k1, k2, by rw [heap_alloc_lt w _ (lt_of_heap k3)]; exact k3, k4.mono le, k5, k6, k7, k8⟩
    · rename_i hlt
      have he : e = fs.S.H.length := by
        rcases Nat.lt_or_ge (e - fs.S.H.length) 1 with h' | h'
        · omega
        · rw [List.getElem?_eq_none (by simpa using h')] at h; cases h
      subst he
      simp at h
      subst h
      exact ⟨w.heap.size, vs, by simp [G'], hi.base, heap_alloc_at w _, hr.mono le, hnoI, h1, h2, hs⟩
  · rcases hphi e b h with h | h
    · have := hi.phid e b h.1; simp; omega
    · simp; omega
  · rcases hphi e b k1 with k1 | k1 <;> rcases hphi f b k2 with k2 | k2
    · exact hi.phij e f b k1.1 k2.1
    · omega
    · omega
    · omega
  · obtain ⟨b, m, vs', ty', fz, k1, k2, k3, k4, k5, k6, k7⟩ := hi.tok t n h
    refine ⟨b, m, vs', ty', fz, k1, k2, by rw [heap_alloc_lt w _ (lt_of_heap k3)]; exact k3, k4, k5, fun o ho => ?_, fun e he => ?_⟩
    · rw [World.frozen?_of_block (w := w) (heap_alloc_lt w _ (lt_of_heap k3))]; exact k6 o ho
    · have := lt_of_heap k3
      rcases hphi e b he with h | h
      · exact k7 e h.1
      · omega

theorem sealedL_mem {l : List AV} : AV.sealedL l = true ↔ ∀ x ∈ l, x.sealed = true := by
  induction l with
  | nil => simp [AV.sealedL]
  | cons a l ih => simp [AV.sealedL, ih]

theorem wrc_spec {off : Nat} {new cs r : List AV} (h : wrc off new cs = some r) : off + new.length ≤ cs.length ∧ r = cs.take off ++ (new ++ cs.drop (off + new.length)) := by
  unfold wrc at h
  split at h
  · cases h; exact ⟨‹_›, rfl⟩
  · cases h
theorem wrc_mem {off : Nat} {new cs r : List AV} (h : wrc off new cs = some r) {p : AV → Prop} (h1 : ∀ x ∈ new, p x) (h2 : ∀ x ∈ cs, p x) : ∀ x ∈ r, p x := by
  obtain ⟨_, rfl⟩ := wrc_spec h
  intro x hx
  simp only [List.mem_append] at hx
  rcases hx with hx | hx | hx
  · exact h2 x (List.mem_of_mem_take hx)
  · exact h1 x hx
  · exact h2 x (List.mem_of_mem_drop hx)
theorem wrc_put {G : Gh} {off : Nat} {new cs r : List AV} (h : wrc off new cs = some r) {nv : List Value} {vs : Array Value} (h1 : VRL G new nv) (h2 : VRL G cs vs.toList) : VRL G r (putL off nv vs).toList := by
  obtain ⟨hle, rfl⟩ := wrc_spec h
  have l1 := h1.length
  have l2 := h2.length
  simp at l2
  rw [putL_toList nv off vs (by omega)]
  exact (h2.take off).append (h1.append (by rw [l1]; exact h2.drop _))
theorem putL_one {off : Nat} {nv : List Value} {vs : Array Value} (hle : off + nv.length ≤ vs.size) (h1 : ∀ x ∈ nv, oneV x = true) (h2 : ∀ x ∈ vs.toList, oneV x = true) : ∀ x ∈ (putL off nv vs).toList, oneV x = true := by
  rw [putL_toList nv off vs hle]
  intro x hx
  simp only [List.mem_append] at hx
  rcases hx with hx | hx | hx
  · exact h2 x (List.mem_of_mem_take hx)
  · exact h1 x hx
  · exact h2 x (List.mem_of_mem_drop hx)

theorem setL_os {b : Nat} : ∀ (l : List Value) (o : Nat) (w : World), (setL b o l w).os = w.os ∧ (setL b o l w).tape = w.tape ∧ (setL b o l w).output = w.output
  | [], _, _ => ⟨rfl, rfl, rfl⟩
  | v :: l, o, w => by rw [setL]; exact setL_os l (o + 1) _

/-- a store into a local box -/
theorem store_local {F : Fix} {i d ver off k : Nat} {G : Gh} {w : World} {fs : FS} {new cs : List AV} {nv : List Value}
    (hp : Pre F fs G w) (hv : (fs.b d).1 = ver) (h0 : ver ≠ 0) (hk : G.nu F.cx.dep ver = some k) (hw : wrc off new (fs.b d).2 = some cs)
    (hr : VRL G new nv) (h1 : ∀ x ∈ nv, oneV x = true) (h2 : ∀ x ∈ new, x.isCell = true) :
    (∀ j, j < nv.length → (w.cell? ⟨k, off + j, none⟩).isSome = true) ∧ (∀ j, j < nv.length → w.frozen? ⟨k, off + j, none⟩ = false) ∧
    Post F fs.c i G (upd d (ver, cs) fs.b) fs.S .undef G (setL k off nv w) (.tuple #[]) := by
  obtain ⟨hi, he0, hl⟩ := hp
  obtain ⟨k', vs, ty, k1, k2, k3, k4, k5, k6, k7, k8, k9⟩ := hl.box d (by rw [hv]; exact h0)
  rw [hv, hk] at k1; cases k1
  have hlen := hr.length
  have hlen2 := k4.length
  simp at hlen2
  obtain ⟨hle, _⟩ := wrc_spec hw
  refine ⟨fun j hj => ?_, fun j _ => frozen_of_heap k3, .undef, ?_, .refl G, ?_, ⟨fun e he => ?_, fun e f x he hf x1 x2 => ?_⟩, fun _ _ h => absurd rfl h⟩
  · rw [cell_of_heap k3]; simp; omega
  · exact hi.frame (fun b => b = k) (fun b hb => by subst hb; exact ⟨k8, k9, k5⟩) (fun b _ hb => setL_heap_other nv off w b hb) (by rw [setL_size]; exact Nat.le_refl _) (setL_below (Nat.le_trans F.ie.base k2) nv off w hi.below) rfl rfl rfl rfl (fun _ _ _ h => h)
  · exact he0.other (by rw [setL_size]; exact Nat.le_refl _) fun b hb _ _ => setL_heap_other nv off w b (by omega)
  · by_cases hed : e = d
    · subst hed
      exact ⟨k, putL off nv vs, ty, by simpa [upd] using hk, k2, setL_heap_same nv off w vs ty (0, 0) k3, by simpa [upd] using wrc_put hw hr k4, k5, putL_one (by omega) h1 k6, by simpa [upd] using wrc_mem hw h2 k7, k8, k9⟩
    · simp only [upd, hed, if_false] at he ⊢
      obtain ⟨x, vs', ty', x1, x2, x3, x4, x5, x6, x7, x8, x9⟩ := hl.box e he
      refine ⟨x, vs', ty', x1, x2, ?_, x4, x5, x6, x7, x8, x9⟩
      rw [setL_heap_other nv off w x fun hx => hed (hl.inj e d x he (by rw [hv]; exact h0) x1 (by rw [hv, hx]; exact hk))]
      exact x3
  · have t : ∀ y, (upd d (ver, cs) fs.b y).1 = (fs.b y).1 := fun y => by
      unfold upd; split
      · rename_i hy; subst hy; exact hv.symm
      · rfl
    rw [t] at he hf x1 x2
    exact hl.inj e f x he hf x1 x2

/-- a store into a box outside -/
theorem store_heap {F : Fix} {i id off k : Nat} {G : Gh} {w : World} {fs : FS} {bx : HBox} {new cs : List AV} {nv : List Value}
    (hp : Pre F fs G w) (hb : fs.S.H[id]? = some bx) (hk : G.phi id = some k) (hw : wrc off new bx.cs = some cs) (hse : AV.sealedL new = true)
    (hr : VRL G new nv) (h1 : ∀ x ∈ nv, oneV x = true) (h2 : ∀ x ∈ new, x.isCell = true) :
    (∀ j, j < nv.length → (w.cell? ⟨k, off + j, none⟩).isSome = true) ∧ (∀ j, j < nv.length → w.frozen? ⟨k, off + j, none⟩ = false) ∧
    Post F fs.c i G fs.b { fs.S with H := fs.S.H.set id ⟨bx.ty, cs⟩ } .undef G (setL k off nv w) (.tuple #[]) := by
  obtain ⟨hi, he0, hl⟩ := hp
  obtain ⟨k', vs, k1, k2, k3, k4, k5, k6, k7, k8⟩ := hi.box id bx hb
  rw [hk] at k1; cases k1
  have hlen := hr.length
  have hlen2 := k4.length
  simp at hlen2
  obtain ⟨hle, _⟩ := wrc_spec hw
  have hid : id < fs.S.H.length := hi.phid id k hk
  have hIk : ∀ b o v, G.I b o = some v → b ≠ k := fun b o v h e => by subst e; rw [k5 o] at h; cases h
  refine ⟨fun j hj => ?_, fun j _ => frozen_of_heap k3, .undef, ⟨hi.gl, setL_below k2 nv off w hi.below, by rw [setL_size]; exact hi.base, fun b o v h => ?_, hi.fr, fun e b h => ?_, fun e b h => ?_, hi.phij, fun t n h => ?_, hi.taud, hi.tauj⟩, .refl G, ?_, ?_, fun _ _ h => absurd rfl h⟩
  · rw [cell_of_heap k3]; simp; omega
  · have := hi.imm b o v h
    rw [World.cell?_of_block (w := w) (setL_heap_other nv off w b (hIk b o v h))]
    exact this
  · by_cases hei : e = id
    · subst hei
      rw [List.getElem?_set_self hid] at h
      cases h
      exact ⟨k, putL off nv vs, hk, k2, setL_heap_same nv off w vs _ _ k3, wrc_put hw hr k4, k5, putL_one (by omega) h1 k6, wrc_mem hw h2 k7, sealedL_mem.2 (wrc_mem hw (sealedL_mem.1 hse) (sealedL_mem.1 k8))⟩
    · rw [List.getElem?_set_ne (by omega)] at h
      obtain ⟨x, vs', x1, x2, x3, x4, x5, x6, x7, x8⟩ := hi.box e b h
      refine ⟨x, vs', x1, x2, ?_, x4, x5, x6, x7, x8⟩
      rw [setL_heap_other nv off w x fun hx => hei (hi.phij e id x x1 (by rw [hx]; exact hk))]
      exact x3
  · have := hi.phid e b h; simpa using this
  · obtain ⟨b, m, vs', ty', fz, x1, x2, x3, x4, x5, x6, x7⟩ := hi.tok t n h
    have hne : b ≠ k := fun e => x7 id (by rw [e]; exact hk)
    have hh := setL_heap_other nv off w b hne
    exact ⟨b, m, vs', ty', fz, x1, x2, by rw [hh]; exact x3, x4, x5, fun o ho => by rw [World.frozen?_of_block (w := w) hh]; exact x6 o ho, x7⟩
  · refine he0.other (by rw [setL_size]; exact Nat.le_refl _) fun b hb' hp' _ => setL_heap_other nv off w b fun e => ?_
    rcases he0.phi id k hk with h | h
    · exact hp' id (by rw [e]; exact h)
    · omega
  · refine ⟨fun e he => ?_, hl.inj⟩
    obtain ⟨x, vs', ty', x1, x2, x3, x4, x5, x6, x7, x8, x9⟩ := hl.box e he
    refine ⟨x, vs', ty', x1, x2, ?_, x4, x5, x6, x7, x8, x9⟩
    rw [setL_heap_other nv off w x fun hx => x8 id (by rw [hx]; exact hk)]
    exact x3
end Go.Proofs.YtmhidempoabehaaGreatDoor.AE
/- The evaluator's plain operations are those of the model. No condition. -/
namespace Go.Proofs.YtmhidempoabehaaGreatDoor.AE
set_option linter.unusedVariables false
set_option linter.unusedSimpArgs false
open Go Go.RowKit

theorem run_loadCells_zero {P : Program} (a : Addr) (w : World) : (loadCells a 0).run P w = .ok #[] w := by
  simp [loadCells, loadCellsFrom]

theorem rho_VR {G : Gh} {t : Nat → AV} {a : Act} (h : ∀ x, VR G (t x) (a.tmps.getD x undef)) (o : Operand) : VR G (rho t o) (a.eval o) := by
  cases o with
  | tmp x => exact h x
  | const v => exact ofC_VR G v
  | global g => exact .junk _
  | func f => exact .fn f [] [] #[] #[] .nil .nil

theorem VR.inv_int {G : Gh} {k : IntKind} {n : Int} {v : Value} (h : VR G (.int k n) v) : v = .int k n := by cases h; rfl
theorem VR.inv_bool {G : Gh} {b : Bool} {v : Value} (h : VR G (.bool b) v) : v = .bool b := by cases h; rfl
theorem VR.inv_str {G : Gh} {s : List UInt8} {v : Value} (h : VR G (.str s) v) : ∃ bs : ByteArray, v = .string bs ∧ bs.data.toList = s := by cases h; exact ⟨_, rfl, rfl⟩
theorem VR.inv_loc {G : Gh} {dep d ver o : Nat} {v : Value} (h : VR G (.loc dep d ver o) v) : ∃ b, v = .pointer (some ⟨b, o, none⟩) ∧ G.nu dep ver = some b := by
  cases h with | loc _ _ _ _ b hb => exact ⟨b, rfl, hb⟩
theorem VR.inv_ptr {G : Gh} {id o : Nat} {v : Value} (h : VR G (.ptr id o) v) : ∃ b, v = .pointer (some ⟨b, o, none⟩) ∧ G.phi id = some b := by
  cases h with | ptr _ _ b hb => exact ⟨b, rfl, hb⟩
theorem VR.inv_ref {G : Gh} {cs : List AV} {v : Value} (h : VR G (.ref cs) v) : ∃ b o, v = .pointer (some ⟨b, o, none⟩) ∧ VRI G cs b o := by
  cases h with | ref _ b o hb => exact ⟨b, o, rfl, hb⟩
theorem str_VR {G : Gh} {s : List UInt8} {bs : ByteArray} (h : bs.data.toList = s) : VR G (.str s) (.string bs) := by subst h; exact .str bs

theorem evBin_run {P : Program} {G : Gh} {w : World} {op : BinOp} {t : TypeId} {x y r : AV} {a b : Value} (ox oy : Operand) (hx : VR G x a) (hy : VR G y b) (h : evBin (boolQ P t) op x y = some r) :
    ∃ v, (do eqGuard op t ox oy a b; binOp op t a b : Sem Value).run P w = .ok v w ∧ VR G r v := by
  unfold evBin at h
  split at h
  · -- numbers
    rename_i k m k' n
    rw [hx.inv_int, hy.inv_int]
    have g : ∀ u : World, (eqGuard op t ox oy (.int k m) (.int k' n)).run P u = .ok () u := fun u => by
      unfold eqGuard; cases op <;> rfl
    simp only [Sem.run_bind, g, Result.andThen_ok]
    split at h
    · split at h
      · cases h
        rename_i h0
        refine ⟨_, ?_, .int _ _⟩
        simp [binOp, Op.shift, show ¬ n < 0 by omega]
      · cases h
    · split at h
      · cases h
        rename_i h0
        refine ⟨_, ?_, .int _ _⟩
        simp [binOp, Op.shift, show ¬ n < 0 by omega]
      · cases h
    · rename_i hs1 hs2
      split at h
      · rename_i hk
        subst hk
        split at h
        case h_4 =>
          split at h
          · cases h
          · cases h; rename_i hn; exact ⟨_, by simp [binOp, Op.intDiv, hn], .int _ _⟩
        case h_5 =>
          split at h
          · cases h
          · cases h; rename_i hn; exact ⟨_, by simp [binOp, Op.intDiv, hn], .int _ _⟩
        all_goals first
          | (cases h; exact ⟨_, by simp [binOp, Op.intArith, Op.intBits, Op.intCmp] <;> rfl, by constructor⟩)
          | cases h
      · cases h
  · -- truths
    rename_i m n
    rw [hx.inv_bool, hy.inv_bool]
    have g : ∀ u : World, (eqGuard op t ox oy (.bool m) (.bool n)).run P u = .ok () u := fun u => by
      unfold eqGuard; cases op <;> rfl
    simp only [Sem.run_bind, g, Result.andThen_ok]
    split at h
    · rename_i hb
      have hu : P.underlying t = some .bool := by
        unfold boolQ at hb
        split at hb
        · assumption
        · cases hb
      have he : (Op.equal t (.bool m) (.bool n)).run P w = .ok (m == n) w := run_equalIn_bool' (P := P) w 9999 t m n hu
      split at h
      · cases h; exact ⟨_, by simp [binOp, he], .bool _⟩
      · cases h; exact ⟨_, by simp [binOp, he], .bool _⟩
      · cases h
    · cases h
  · -- texts
    rename_i m n
    obtain ⟨p, rfl, rfl⟩ := hx.inv_str
    obtain ⟨q, rfl, rfl⟩ := hy.inv_str
    have g : ∀ u : World, (eqGuard op t ox oy (.string p) (.string q)).run P u = .ok () u := fun u => by
      unfold eqGuard; cases op <;> rfl
    have hp : p.data.toList.length = p.size := by rw [Array.length_toList]; rfl
    have hq : q.data.toList.length = q.size := by rw [Array.length_toList]; rfl
    simp only [Sem.run_bind, g, Result.andThen_ok]
    split at h
    · split at h
      · cases h
        rename_i hle
        refine ⟨.string (p ++ q), ?_, str_VR (by simp)⟩
        have : ¬ ((p.size + q.size : Nat) : Int) > IntKind.i64.max := by
          rw [show IntKind.i64.max = 9223372036854775807 by rfl]; omega
        simp only [binOp, Op.stringOp, this, if_false, Sem.run_pure]
      · cases h
    all_goals first
      | (cases h; exact ⟨_, by simp only [binOp, Op.stringOp, ByteArray.toList_eq, Sem.run_pure] <;> rfl, .bool _⟩)
      | cases h
  · cases h

theorem cmpN_spec {op : BinOp} {q : Bool} {r : AV} (h : cmpN op q = some r) : (op = .eql ∧ r = .bool q) ∨ (op = .neq ∧ r = .bool (!q)) := by
  unfold cmpN at h
  split at h
  · cases h; exact .inl ⟨rfl, rfl⟩
  · cases h; exact .inr ⟨rfl, rfl⟩
  · cases h
theorem ifcQ_spec {P : Program} {t : TypeId} (h : ifcQ P t = true) : ∃ ms, P.underlying t = some (.interface ms) := by
  unfold ifcQ at h
  split at h
  · exact ⟨_, by assumption⟩
  · cases h
theorem evB2_run {P : Program} {G : Gh} {w : World} {op : BinOp} {t : TypeId} {x y r : AV} {a b : Value} (ox oy : Operand) (hx : VR G x a) (hy : VR G y b) (h : evB2 P t (isC ox || isC oy) op x y = some r) :
    ∃ v, (do eqGuard op t ox oy a b; binOp op t a b : Sem Value).run P w = .ok v w ∧ VR G r v := by
  have eqv : ∀ {q : Bool} {a b : Value}, ifcQ P t = true → (∀ d ms, P.underlying t = some (.interface ms) → (Op.equalIn (d + 1) t a b).run P w = .ok q w) → (∀ u : World, ∀ op, op = .eql ∨ op = .neq → (eqGuard op t ox oy a b).run P u = .ok () u) →
      (∀ op, op = .eql ∨ op = .neq → binOp op t a b = (do let e ← Op.equal t a b; pure (.bool (if op = .eql then e else !e)))) → cmpN op q = some r →
      ∃ v, (do eqGuard op t ox oy a b; binOp op t a b : Sem Value).run P w = .ok v w ∧ VR G r v := by
    intro q a b hi he hg hb hc
    obtain ⟨ms, hms⟩ := ifcQ_spec hi
    have h1 := he 9999 ms hms
    rcases cmpN_spec hc with ⟨rfl, rfl⟩ | ⟨rfl, rfl⟩
    · refine ⟨.bool q, ?_, .bool q⟩
      simp only [Sem.run_bind, hg w _ (.inl rfl), Result.andThen_ok, hb _ (.inl rfl)]
      simp [Op.equal, Op.maxDepth, h1]
    · refine ⟨.bool (!q), ?_, .bool _⟩
      simp only [Sem.run_bind, hg w _ (.inr rfl), Result.andThen_ok, hb _ (.inr rfl)]
      simp [Op.equal, Op.maxDepth, h1]
  have pqv : ∀ {q : Bool} {a b : Value}, ptrQ P t = true → (∀ d e, P.underlying t = some (.pointer e) → (Op.equalIn (d + 1) t a b).run P w = .ok q w) → (∀ u : World, ∀ op, op = .eql ∨ op = .neq → (eqGuard op t ox oy a b).run P u = .ok () u) →
      (∀ op, op = .eql ∨ op = .neq → binOp op t a b = (do let e ← Op.equal t a b; pure (.bool (if op = .eql then e else !e)))) → cmpN op q = some r →
      ∃ v, (do eqGuard op t ox oy a b; binOp op t a b : Sem Value).run P w = .ok v w ∧ VR G r v := by
    intro q a b hi he hg hb hc
    obtain ⟨e, hms⟩ : ∃ e, P.underlying t = some (.pointer e) := by
      unfold ptrQ at hi
      split at hi
      · rename_i e he; exact ⟨e, he⟩
      · cases hi
    have h1 := he 9999 e hms
    rcases cmpN_spec hc with ⟨rfl, rfl⟩ | ⟨rfl, rfl⟩
    · refine ⟨.bool q, ?_, .bool q⟩
      simp only [Sem.run_bind, hg w _ (.inl rfl), Result.andThen_ok, hb _ (.inl rfl)]
      simp [Op.equal, Op.maxDepth, h1]
    · refine ⟨.bool (!q), ?_, .bool _⟩
      simp only [Sem.run_bind, hg w _ (.inr rfl), Result.andThen_ok, hb _ (.inr rfl)]
      simp [Op.equal, Op.maxDepth, h1]
  unfold evB2 at h
  split at h
  · split at h
    · rename_i hi
      cases hx with
      | iface t1 a1 v1 _ =>
        cases hy
        exact eqv hi (fun d ms hm => by simp [Op.equalIn, run_underlying' P w t _ hm]) (fun u op ho => by rcases ho with rfl | rfl <;> rfl) (fun op ho => by rcases ho with rfl | rfl <;> rfl) h
    · cases h
  · split at h
    · rename_i hi
      cases hy with
      | iface t1 a1 v1 _ =>
        cases hx
        exact eqv hi (fun d ms hm => by simp [Op.equalIn, run_underlying' P w t _ hm]) (fun u op ho => by rcases ho with rfl | rfl <;> rfl) (fun op ho => by rcases ho with rfl | rfl <;> rfl) h
    · cases h
  · split at h
    · rename_i hi
      simp only [Bool.and_eq_true, Bool.or_eq_true] at hi
      cases hx
      cases hy
      refine eqv hi.1 (fun d ms hm => by simp [Op.equalIn, run_underlying' P w t _ hm]) (fun u op ho => ?_) (fun op ho => by rcases ho with rfl | rfl <;> rfl) h
      have hk : ((ox matches .const _) || (oy matches .const _)) = true := by
        have := hi.2
        unfold isC at this
        rcases this with h | h
        · cases ox <;> simp_all
        · cases oy <;> simp_all
      have hr : ∀ op : BinOp, op = .eql ∨ op = .neq → (eqGuard op t ox oy .nilIface .nilIface).run P u = .ok () u := fun op ho => by
        unfold eqGuard
        have h1 : (!(op matches .eql | .neq)) = false := by rcases ho with rfl | rfl <;> rfl
        cases ox <;> cases oy <;> first | (cases hk; done) | (rcases ho with rfl | rfl <;> rfl)
      exact hr op ho
    · cases h
  · split at h
    · rename_i hi
      cases hx with
      | ptr id off b0 _ =>
        cases hy
        exact pqv hi (fun d e hm => by simp [Op.equalIn, run_underlying' P w t _ hm]) (fun u op ho => by rcases ho with rfl | rfl <;> rfl) (fun op ho => by rcases ho with rfl | rfl <;> rfl) h
    · cases h
  · split at h
    · rename_i hi
      cases hx with
      | ref cs b0 o0 _ =>
        cases hy
        exact pqv hi (fun d e hm => by simp [Op.equalIn, run_underlying' P w t _ hm]) (fun u op ho => by rcases ho with rfl | rfl <;> rfl) (fun op ho => by rcases ho with rfl | rfl <;> rfl) h
    · cases h
  · split at h
    · rename_i hi
      cases hx with
      | loc dep d0 ver off b0 _ =>
        cases hy
        exact pqv hi (fun d e hm => by simp [Op.equalIn, run_underlying' P w t _ hm]) (fun u op ho => by rcases ho with rfl | rfl <;> rfl) (fun op ho => by rcases ho with rfl | rfl <;> rfl) h
    · cases h
  · split at h
    · rename_i hi
      cases hx
      cases hy
      exact pqv hi (fun d e hm => by simp [Op.equalIn, run_underlying' P w t _ hm]) (fun u op ho => by rcases ho with rfl | rfl <;> rfl) (fun op ho => by rcases ho with rfl | rfl <;> rfl) h
    · cases h
  · exact evBin_run ox oy hx hy h

theorem evUn_run {P : Program} {G : Gh} {w : World} {op : UnOp} {x r : AV} {a : Value} (hx : VR G x a) (h : evUn op x = some r) : ∃ v, (Op.unary op a).run P w = .ok v w ∧ VR G r v := by
  unfold evUn at h
  split at h
  · cases h; rw [hx.inv_int]; exact ⟨_, rfl, .int _ _⟩
  · cases h; rw [hx.inv_bool]; exact ⟨_, rfl, .bool _⟩
  · cases h

theorem evLen_run {P : Program} {G : Gh} {w : World} {t u : TypeId} {x r : AV} {a : Value} {ts : Array TypeId} (ht : ts[0]? = some t) {l : Array Value} (hl : l[0]? = some a) (hx : VR G x a) (h : evLen P t x = some r) :
    ∃ v, (Builtin.len_ ts u l).run P w = .ok v w ∧ VR G r v := by
  unfold evLen at h
  split at h
  · rename_i s
    obtain ⟨p, rfl, rfl⟩ := hx.inv_str
    split at h
    · rename_i hs
      cases h
      have hu : P.underlying t = some .string := by
        unfold strQ at hs; split at hs
        · assumption
        · cases hs
      refine ⟨.int .i64 p.size, ?_, ?_⟩
      · simp [Builtin.len_, ht, hl, run_underlying' P w t _ hu, goInt]
      · rw [show (p.data.toList.length : Int) = (p.size : Int) by rw [Array.length_toList]; rfl]
        exact .int _ _
    · cases h
  · rename_i es tok
    split at h
    · rename_i e he
      cases h
      have hu : P.underlying t = some (.slice e) := by
        unfold sliceQ at he; split at he
        · cases he; assumption
        · cases he
      cases hx with
      | nils _ _ _ => exact ⟨.int .i64 0, by simp [Builtin.len_, ht, hl, run_underlying' P w t _ hu, goInt], .int _ _⟩
      | slice _ _ fl b o cap sz h1 h2 h3 h4 h5 => exact ⟨.int .i64 es.length, by simp [Builtin.len_, ht, hl, run_underlying' P w t _ hu, goInt], .int _ _⟩
    · cases h
  · cases h

theorem evMin2_run {P : Program} {G : Gh} {w : World} {x y r : AV} {a b : Value} (hx : VR G x a) (hy : VR G y b) (h : evMin2 x y = some r) : ∃ v, (Builtin.min2 a b).run P w = .ok v w ∧ VR G r v := by
  unfold evMin2 at h
  split at h
  · split at h
    · rename_i hk
      subst hk
      cases h
      rw [hx.inv_int, hy.inv_int]
      exact ⟨_, rfl, .int _ _⟩
    · cases h
  · cases h
theorem evMax2_run {P : Program} {G : Gh} {w : World} {x y r : AV} {a b : Value} (hx : VR G x a) (hy : VR G y b) (h : evMax2 x y = some r) : ∃ v, (Builtin.max2 a b).run P w = .ok v w ∧ VR G r v := by
  unfold evMax2 at h
  split at h
  · split at h
    · rename_i hk
      subst hk
      cases h
      rw [hx.inv_int, hy.inv_int]
      exact ⟨_, rfl, .int _ _⟩
    · cases h
  · cases h

theorem intQ_spec {P : Program} {t : TypeId} {k : IntKind} (h : intQ P t = some k) : P.underlying t = some (.int k) := by
  unfold intQ at h; split at h
  · cases h; assumption
  · cases h
theorem strQ_spec {P : Program} {t : TypeId} (h : strQ P t = true) : P.underlying t = some .string := by
  unfold strQ at h; split at h
  · assumption
  · cases h
theorem sliceQ_spec {P : Program} {t e : TypeId} (h : sliceQ P t = some e) : P.underlying t = some (.slice e) := by
  unfold sliceQ at h; split at h
  · cases h; assumption
  · cases h
theorem arrQ_spec {P : Program} {t e : TypeId} {n : Nat} (h : arrQ P t = some (n, e)) : P.underlying t = some (.array n e) := by
  unfold arrQ at h; split at h
  · cases h; assumption
  · cases h

/-- bytes in a row -/
theorem bytesOf_vals {G : Gh} {es : List AV} {l : List UInt8} (h : bytesOf es = some l) : flatQ es = some es ∧ l.length = es.length ∧ ∀ vs, VRL G es vs → ∃ ns : List Int, vs = ns.map (Value.int .u8) ∧ ns.map (fun n => UInt8.ofNat n.toNat) = l := by
  induction es generalizing l with
  | nil =>
    cases h
    exact ⟨rfl, rfl, fun vs hv => by cases hv; exact ⟨[], rfl, rfl⟩⟩
  | cons e es ih =>
    cases e <;> (try (simp [bytesOf] at h; done))
    rename_i k n
    cases k <;> (try (simp [bytesOf] at h; done))
    simp only [bytesOf] at h
    split at h
    · rename_i r hr
      cases h
      obtain ⟨h1, h2, h3⟩ := ih hr
      refine ⟨by simp [flatQ, AV.cells?, h1], by simp [h2], fun vs hv => ?_⟩
      cases hv with
      | cons _ v _ m hv hm =>
        obtain ⟨ns, rfl, rfl⟩ := h3 m hm
        rw [hv.inv_int]
        exact ⟨n :: ns, rfl, rfl⟩
    · cases h

theorem foldl_push : ∀ (ns : List Int) (s : ByteArray), (ns.foldl (fun r n => r.push (UInt8.ofNat n.toNat)) s).data.toList = s.data.toList ++ ns.map (fun n => UInt8.ofNat n.toNat)
  | [], s => by simp
  | n :: ns, s => by
    rw [List.foldl_cons, foldl_push ns]
    simp

theorem flat_bytes {es : List AV} (h : flatQ es = some es) {w0 : World} {B : Nat} {G : Gh} {S : St} {w : World} (hi : Inv w0 B G S w) {fl : List AV} {b o : Nat} (hf : flatQ es = some fl) (hv : VRI G fl b o) :
    ∃ vs, VRL G es vs ∧ ∀ j v, vs[j]? = some v → w.cell? ⟨b, o + j, none⟩ = some v := by
  rw [h] at hf
  cases hf
  obtain ⟨vs, h1, h2⟩ := hv.vals
  exact ⟨vs, h1, fun j v hj => hi.imm _ _ _ (h2 j v hj)⟩

theorem evConv_run {P : Program} {w0 : World} {B : Nat} {G : Gh} {S : St} {w : World} (hi : Inv w0 B G S w) {s d : TypeId} {x r : AV} {a : Value} (hx : VR G x a) (h : evConv P s d x = some r) :
    ∃ v, (convert s d a).run P w = .ok v w ∧ VR G r v := by
  unfold evConv at h
  split at h
  · rename_i k n
    split at h
    · rename_i k1 k2 h1 h2
      cases h
      rw [hx.inv_int]
      exact ⟨_, by simp [convert, run_underlying' P w s _ (intQ_spec h1), run_underlying' P w d _ (intQ_spec h2), Conv.intToInt], .int _ _⟩
    · cases h
  · rename_i l
    split at h
    · rename_i hc
      cases h
      obtain ⟨p, rfl, rfl⟩ := hx.inv_str
      exact ⟨_, by simp [convert, run_underlying' P w s _ (strQ_spec hc.1), run_underlying' P w d _ (strQ_spec hc.2)], .str _⟩
    · cases h
  · rename_i es tok
    split at h
    · rename_i e he
      split at h
      · rename_i hc
        split at h
        · rename_i l hl
          cases h
          obtain ⟨h1, h2, h3⟩ := bytesOf_vals (G := G) hl
          have hs := sliceQ_spec he
          have hd := strQ_spec hc.2
          have hu := intQ_spec hc.1
          cases hx with
          | nils _ ad _ =>
            simp [bytesOf] at hl
            subst hl
            refine ⟨.string .empty, ?_, str_VR rfl⟩
            rw [run_convert_bytes_string w s d e ad 0 0 hs hu hd]
            cases ad with
            | none => rfl
            | some a => simp [Conv.bytesToString, run_loadCells_zero]
          | slice _ _ fl b o cap sz k1 k2 k3 k4 k5 =>
            obtain ⟨vs, v1, v2⟩ := flat_bytes h1 hi k2 k3
            obtain ⟨ns, rfl, rfl⟩ := h3 vs v1
            have hlen := v1.length
            rw [run_convert_bytes_string w s d e _ _ _ hs hu hd]
            have hc := run_loadCells_at P w b o _ v2
            rw [hlen] at hc
            exact ⟨_, run_bytesToString w ⟨b, o, none⟩ es.length cap ns hc, str_VR (by rw [foldl_push]; rfl)⟩
        · cases h
      · cases h
    · cases h
  · cases h

theorem fieldQ_spec {P : Program} {t : TypeId} {f off sz : Nat} {ag : Bool} (h : fieldQ P t f = some (off, sz, ag)) :
    ∃ fs fd, P.underlying t = some (.struct fs) ∧ fs[f]? = some fd ∧ (P.underlying fd.type).isSome ∧ P.cellsOf fd.type = sz ∧ sz ≠ 0 ∧ fd.offset = off ∧ aggQ P fd.type = ag := by
  unfold fieldQ at h
  split at h
  · rename_i fs hu
    split at h
    · rename_i fd hf
      split at h
      · rename_i hc
        cases h
        exact ⟨fs, fd, hu, hf, hc.1, rfl, hc.2, rfl, rfl⟩
      · cases h
    · cases h
  · cases h

theorem run_part {P : Program} {G : Gh} {w : World} {t : TypeId} {cs : List AV} {vs : Array Value} {off : Nat} {r : AV} (hu : (P.underlying t).isSome) (hv : VRL G cs vs.toList)
    (h : rdc (aggQ P t) (P.cellsOf t) (cs.drop off) = some r) : ∃ v, (part t vs off).run P w = .ok v w ∧ VR G r v := by
  obtain ⟨i, hi⟩ := info_of_underlying hu
  unfold rdc at h
  unfold part
  simp only [Sem.run_bind, run_isAgg' P w t hu, Result.andThen_ok]
  cases ha : aggQ P t with
  | true =>
    simp only [ha, if_true] at h
    split at h
    · cases h
      simp only [if_true, Sem.run_bind, run_sizeOf' P w t i hi, Result.andThen_ok, Sem.run_pure]
      refine ⟨_, rfl, .agg _ _ ?_⟩
      have := (hv.drop off).take (P.cellsOf t)
      simpa [Array.toList_extract, List.extract_eq_take_drop, List.take_drop] using this
    · cases h
  | false =>
    simp only [ha, Bool.false_eq_true, if_false] at h
    simp at h
    obtain ⟨v, h1, h2⟩ := hv.get h
    simp at h1
    exact ⟨v, by simp [h1], h2⟩

theorem evField_run {P : Program} {G : Gh} {w : World} {t : TypeId} {x r : AV} {a : Value} {f : Nat} (hx : VR G x a) (h : evField P t x f = some r) : ∃ v, (Instr.field t a f).run P w = .ok v w ∧ VR G r v := by
  unfold evField at h
  split at h
  · rename_i off sz ag cs hf
    obtain ⟨fs, fd, h1, h2, h3, h4, h5, h6, h7⟩ := fieldQ_spec hf
    cases hx with
    | agg _ vs hv =>
      subst h4 h6 h7
      obtain ⟨v, e1, e2⟩ := run_part (P := P) (w := w) h3 hv h
      exact ⟨v, by simp [Instr.field, run_underlying' P w t _ h1, h2, asAgg, e1], e2⟩
  · cases h

theorem evFieldAddr_run {P : Program} {G : Gh} {w : World} {t : TypeId} {x r : AV} {a : Value} {f : Nat} (hx : VR G x a) (h : evFieldAddr P t x f = some r) : ∃ v, (Instr.fieldAt t a f).run P w = .ok v w ∧ VR G r v := by
  unfold evFieldAddr at h
  split at h
  · rename_i off sz ag hf
    obtain ⟨fs, fd, h1, h2, h3, h4, h5, h6, h7⟩ := fieldQ_spec hf
    obtain ⟨i, hi⟩ := info_of_underlying h3
    have run : ∀ b o, (Instr.fieldAt t (.pointer (some ⟨b, o, none⟩)) f).run P w = .ok (.pointer (some ⟨b, o + off, none⟩)) w := fun b o => by
      simp [Instr.fieldAt, run_underlying' P w t _ h1, h2, Instr.sureAddr, fieldPlace, run_sizeOf' P w fd.type i hi, h4, h5, h6, add_none]
    split at h
    · cases h
      obtain ⟨b, o, rfl, hv⟩ := hx.inv_ref
      exact ⟨_, run b o, .ref _ _ _ (hv.drop' off)⟩
    · cases h
      obtain ⟨b, rfl, hb⟩ := hx.inv_loc
      exact ⟨_, run b _, .loc _ _ _ _ _ hb⟩
    · cases h
      obtain ⟨b, rfl, hb⟩ := hx.inv_ptr
      exact ⟨_, run b _, .ptr _ _ _ hb⟩
    · cases h
  · cases h

theorem evIndex_run {P : Program} {G : Gh} {w : World} {t : TypeId} {x i r : AV} {a j : Value} (hx : VR G x a) (hj : VR G i j) (h : evIndex P t x i = some r) : ∃ v, (Instr.index t a j).run P w = .ok v w ∧ VR G r v := by
  unfold evIndex at h
  split at h
  · rename_i k n
    rw [hj.inv_int]
    split at h
    · rename_i s
      obtain ⟨p, rfl, rfl⟩ := hx.inv_str
      split at h
      · rename_i hc
        split at h
        · rename_i b hb
          cases h
          refine ⟨.int .u8 b.toNat, ?_, .int _ _⟩
          have e : p[n.toNat]? = some b := by
            have hlt : n.toNat < p.data.toList.length := (List.getElem?_eq_some_iff.1 hb).1
            have hlt' : n.toNat < p.size := by rw [Array.length_toList] at hlt; exact hlt
            rw [getElem?_pos p n.toNat hlt']
            congr 1
            have := (List.getElem?_eq_some_iff.1 hb).2
            rw [← this]
            simp [ByteArray.getElem_eq_getElem_data]
          simp [Instr.index, asIntOf, run_underlying' P w t _ (strQ_spec hc.1), hc.2, e]
        · cases h
      · cases h
    · rename_i cs
      cases hx with
      | agg _ vs hv =>
        split at h
        · rename_i len e he
          split at h
          · rename_i hc
            obtain ⟨ii, hii⟩ := info_of_underlying hc.2.2
            obtain ⟨v, e1, e2⟩ := run_part (P := P) (w := w) hc.2.2 hv h
            exact ⟨v, by simp [Instr.index, asIntOf, run_underlying' P w t _ (arrQ_spec he), hc.1, hc.2.1, run_sizeOf' P w e ii hii, e1], e2⟩
          · cases h
        · cases h
    · cases h
  · cases h

theorem nth_spec {l : List AV} {n : Int} {a : AV} (h : nth l n = some a) : 0 ≤ n ∧ l[n.toNat]? = some a := by
  unfold nth at h; split at h
  · exact ⟨‹_›, h⟩
  · cases h

theorem evIndexAddr_run {P : Program} {G : Gh} {w : World} {t : TypeId} {x i r : AV} {a j : Value} (hx : VR G x a) (hj : VR G i j) (h : evIndexAddr P t x i = some r) : ∃ v, (Instr.indexAt t a j).run P w = .ok v w ∧ VR G r v := by
  unfold evIndexAddr at h
  split at h
  · rename_i k n
    rw [hj.inv_int]
    split at h
    · rename_i es tok
      split at h
      · rename_i e he
        split at h
        · rename_i v hv
          split at h
          · rename_i cs hcs
            split at h
            · rename_i hc
              cases h
              obtain ⟨h0, hn⟩ := nth_spec hv
              obtain ⟨ii, hii⟩ := Option.isSome_iff_exists.1 hc.2
              have hlt := (List.getElem?_eq_some_iff.1 hn).1
              cases hx with
              | nils _ _ _ => simp at hlt
              | slice _ _ fl b o cap sz k1 k2 k3 k4 k5 =>
                have hsz : sz = P.cellsOf e := by
                  obtain ⟨c, c1, c2⟩ := sizesOk_mem.1 k5 v (List.mem_of_getElem? hn)
                  rw [hcs] at c1; cases c1; omega
                subst hsz
                refine ⟨_, ?_, .ref _ _ _ (VRI.elem k2 k5 k3 hn hcs)⟩
                have hn2 : n < (es.length : Int) := by omega
                simp [Instr.indexAt, asIntOf, run_underlying' P w t _ (sliceQ_spec he), h0, hn2, run_sizeOf' P w e ii hii, add_none]
            · cases h
          · cases h
        · cases h
      · cases h
    · split at h
      · rename_i len e he
        split at h
        · rename_i hc
          obtain ⟨ii, hii⟩ := Option.isSome_iff_exists.1 hc.2.2
          have run : ∀ b o, (Instr.indexAt t (.pointer (some ⟨b, o, none⟩)) (.int k n)).run P w = .ok (.pointer (some ⟨b, o + n.toNat * P.cellsOf e, none⟩)) w := fun b o => by
            simp [Instr.indexAt, asIntOf, run_underlying' P w t _ (arrQ_spec he), hc.1, hc.2.1, run_sizeOf' P w e ii hii, add_none, Instr.sureAddr]
          split at h
          · cases h
            obtain ⟨b, o, rfl, hv⟩ := hx.inv_ref
            exact ⟨_, run b o, .ref _ _ _ (hv.drop' _)⟩
          · cases h
            obtain ⟨b, rfl, hb⟩ := hx.inv_loc
            exact ⟨_, run b _, .loc _ _ _ _ _ hb⟩
          · cases h
            obtain ⟨b, rfl, hb⟩ := hx.inv_ptr
            exact ⟨_, run b _, .ptr _ _ _ hb⟩
          · cases h
        · cases h
      · cases h
  · cases h

theorem sizesOk_take {n k : Nat} {l : List AV} (h : sizesOk n l = true) : sizesOk n (l.take k) = true :=
  sizesOk_mem.2 fun e he => sizesOk_mem.1 h e (List.mem_of_mem_take he)
theorem sizesOk_drop {n k : Nat} {l : List AV} (h : sizesOk n l = true) : sizesOk n (l.drop k) = true :=
  sizesOk_mem.2 fun e he => sizesOk_mem.1 h e (List.mem_of_mem_drop he)
end Go.Proofs.YtmhidempoabehaaGreatDoor.AE
/- Slices, structs and appends: the evaluator's are the model's. No condition. -/
namespace Go.Proofs.YtmhidempoabehaaGreatDoor.AE
set_option linter.unusedVariables false
set_option linter.unusedSimpArgs false
open Go Go.RowKit

/-- an optional operand -/
def OVR (G : Gh) : Option AV → Option Value → Prop
  | none, none => True
  | some a, some v => VR G a v
  | _, _ => False

theorem run_sliceBound {P : Program} {w : World} {k : IntKind} {i : Int} {y : Nat} (c : BoundsCode) (h0 : 0 ≤ i) (h1 : i ≤ y) : (Instr.sliceBound (.int k i) y c).run P w = .ok i.toNat w := by
  simp [Instr.sliceBound, asIntOf, h0, h1]

theorem evSlice_run {P : Program} {G : Gh} {w : World} {t : TypeId} {x r : AV} {a : Value} {lo hi : Option AV} {lo' hi' : Option Value} (hx : VR G x a) (hlo : OVR G lo lo') (hhi : OVR G hi hi') (h : evSlice P t x lo hi = some r) :
    ∃ v, (Instr.sliceAt t a lo' hi' none).run P w = .ok v w ∧ VR G r v := by
  unfold evSlice at h
  split at h
  · rename_i s
    obtain ⟨p, rfl, rfl⟩ := hx.inv_str
    have hlen : p.data.toList.length = p.size := by rw [Array.length_toList]; rfl
    split at h
    · rename_i hs
      have hu := strQ_spec hs
      split at h
      · rename_i kh hv kl lv e1 e2
        split at h
        · rename_i hc
          cases h
          obtain ⟨c1, c2, c3, c4⟩ := hc
          rw [hlen] at c2
          have key : (Instr.sliceBounds false p.size p.size lo' hi' none).run P w = .ok (lv.toNat, hv.toNat, p.size) w := by
            unfold Instr.sliceBounds
            cases hi with
            | none =>
              cases hi' with
              | some v => exact hhi.elim
              | none =>
                simp at e1
                cases lo with
                | none =>
                  cases lo' with
                  | some v => exact hlo.elim
                  | none => simp at e2; obtain ⟨_, rfl⟩ := e1; obtain ⟨_, rfl⟩ := e2; simp [hlen]
                | some l =>
                  cases lo' with
                  | none => exact hlo.elim
                  | some v =>
                    simp at e2
                    subst e2
                    have := VR.inv_int hlo
                    subst this
                    obtain ⟨_, rfl⟩ := e1
                    simp [run_sliceBound (P := P) (w := w) (k := kl) _ c3 (show lv ≤ (p.size : Int) by omega), hlen]
            | some hh =>
              cases hi' with
              | none => exact hhi.elim
              | some v =>
                simp at e1
                subst e1
                have := VR.inv_int hhi
                subst this
                cases lo with
                | none =>
                  cases lo' with
                  | some v => exact hlo.elim
                  | none => simp at e2; obtain ⟨_, rfl⟩ := e2; simp [run_sliceBound (P := P) (w := w) (k := kh) _ c1 c2]
                | some l =>
                  cases lo' with
                  | none => exact hlo.elim
                  | some v =>
                    simp at e2
                    subst e2
                    have := VR.inv_int hlo
                    subst this
                    simp [run_sliceBound (P := P) (w := w) (k := kh) _ c1 c2, run_sliceBound (P := P) (w := w) (k := kl) (y := hv.toNat) _ c3 (by omega)]
          refine ⟨.string (p.extract lv.toNat hv.toNat), ?_, str_VR ?_⟩
          · simp [Instr.sliceAt, Instr.slice, run_underlying' P w t _ hu, key]
          · simp [ByteArray.data_extract, List.extract_eq_take_drop, List.drop_take]
        · cases h
      · cases h
    · cases h
  · rename_i es tok
    split at h
    · cases h
    · rename_i e he
      have hu := sliceQ_spec he
      split at h
      · rename_i hinf
        obtain ⟨hinf, hso⟩ := hinf
        obtain ⟨ii, hii⟩ := Option.isSome_iff_exists.1 hinf
        split at h
        · rename_i kh hv kl lv e1 e2
          split at h
          · rename_i hc
            cases h
            obtain ⟨c1, c2, c3, c4⟩ := hc
            obtain ⟨ad, cap, rfl, hcap⟩ : ∃ ad cap, a = .slice ad es.length cap ∧ es.length ≤ cap := by
              cases hx with
              | nils _ ad _ => exact ⟨ad, 0, rfl, Nat.le_refl _⟩
              | slice _ _ fl b o cap sz k1 k2 k3 k4 k5 => exact ⟨_, cap, rfl, k1⟩
            have key : (Instr.sliceBounds true es.length cap lo' hi' none).run P w = .ok (lv.toNat, hv.toNat, cap) w := by
              unfold Instr.sliceBounds
              cases hi with
              | none =>
                cases hi' with
                | some v => exact hhi.elim
                | none =>
                  simp at e1
                  cases lo with
                  | none =>
                    cases lo' with
                    | some v => exact hlo.elim
                    | none => simp at e2; obtain ⟨_, rfl⟩ := e1; obtain ⟨_, rfl⟩ := e2; simp
                  | some l =>
                    cases lo' with
                    | none => exact hlo.elim
                    | some v =>
                      simp at e2
                      subst e2
                      have := VR.inv_int hlo
                      subst this
                      obtain ⟨_, rfl⟩ := e1
                      simp [run_sliceBound (P := P) (w := w) (k := kl) _ c3 (show lv ≤ (es.length : Int) by omega)]
              | some hh =>
                cases hi' with
                | none => exact hhi.elim
                | some v =>
                  simp at e1
                  subst e1
                  have := VR.inv_int hhi
                  subst this
                  cases lo with
                  | none =>
                    cases lo' with
                    | some v => exact hlo.elim
                    | none => simp at e2; obtain ⟨_, rfl⟩ := e2; simp [run_sliceBound (P := P) (w := w) (k := kh) _ c1 (show hv ≤ (cap : Int) by omega)]
                  | some l =>
                    cases lo' with
                    | none => exact hlo.elim
                    | some v =>
                      simp at e2
                      subst e2
                      have := VR.inv_int hlo
                      subst this
                      simp [run_sliceBound (P := P) (w := w) (k := kh) _ c1 (show hv ≤ (cap : Int) by omega), run_sliceBound (P := P) (w := w) (k := kl) (y := hv.toNat) _ c3 (by omega)]
            refine ⟨.slice (if cap = lv.toNat then ad else ad.map (·.add (lv.toNat * P.cellsOf e))) (hv.toNat - lv.toNat) (cap - lv.toNat), ?_, ?_⟩
            · simp [Instr.sliceAt, Instr.slice, run_underlying' P w t _ hu, key, run_sizeOf' P w e ii hii]
            · have hl : ((es.take hv.toNat).drop lv.toNat).length = hv.toNat - lv.toNat := by simp; omega
              cases hx with
              | nils _ ad htok =>
                simp at c2 c4
                have z1 : hv.toNat = 0 := by omega
                have z2 : lv.toNat = 0 := by omega
                rw [z1, z2]
                simp
                refine .nils _ _ fun t p => ?_
                cases hi <;> cases tok <;> simp
              | slice _ _ fl b o cap sz k1 k2 k3 k4 k5 =>
                by_cases hcl : cap = lv.toNat
                · have z : (es.take hv.toNat).drop lv.toNat = [] := by
                    apply List.eq_nil_of_length_eq_zero; omega
                  have z2 : hv.toNat - lv.toNat = 0 := by omega
                  rw [z, z2, if_pos hcl]
                  refine .slice [] _ [] b o (cap - lv.toNat) sz (Nat.zero_le _) rfl (.nil _ _) ?_ rfl
                  cases hi <;> cases tok <;> simp only [TokR] <;> simp
                  all_goals (simp only [TokR] at k4; try omega)
                · rw [if_neg hcl]
                  simp only [Option.map_some, add_none]
                  rw [← hl]
                  obtain ⟨x, y, f1, f2, f3⟩ := flatQ_split (a := es.take hv.toNat) (b := es.drop hv.toNat) (by rw [List.take_append_drop]; exact k2)
                  obtain ⟨x1, x2, g1, g2, g3⟩ := flatQ_split (a := (es.take hv.toNat).take lv.toNat) (b := (es.take hv.toNat).drop lv.toNat) (by rw [List.take_append_drop]; exact f1)
                  subst f3 g3
                  have hx1 : x1.length = lv.toNat * P.cellsOf e := by
                    rw [flatQ_len' g1 (sizesOk_take (sizesOk_take hso))]
                    congr 1
                    simp; omega
                  refine .slice _ _ x2 b _ (cap - lv.toNat) (P.cellsOf e) (by rw [hl]; omega) g2 (by rw [← hx1]; exact k3.left.right) ?_ (sizesOk_drop (sizesOk_take hso))
                  cases hi <;> cases tok <;> simp only [TokR]
                  all_goals (simp only [TokR] at k4; try omega)
                  simp at e1
                  obtain ⟨_, rfl⟩ := e1
                  omega
          · cases h
        · cases h
      · cases h
  · cases h
end Go.Proofs.YtmhidempoabehaaGreatDoor.AE
/- Appends: the evaluator's is the model's. No condition. -/
namespace Go.Proofs.YtmhidempoabehaaGreatDoor.AE
set_option linter.unusedVariables false
set_option linter.unusedSimpArgs false
open Go Go.RowKit

section
variable {P : Program} {w : World}
theorem run_append_room' (ty tx e r : TypeId) (i : TypeInfo) (ts : Array TypeId) (h0 : ts[0]? = some ty) (h1 : ts[1]? = some tx) (ht : P.underlying ty = some (.slice e)) {dx : TypeDesc} (hx : P.underlying tx = some dx) (hni : ∀ k, dx ≠ .int k)
    (hi : P.info? e = some i) (b o sLen sCap n : Nat) (x : Value) (news : List Value) (hn : (Builtin.lenOf x).run P w = .ok n w) (hf : (Builtin.firstCells i.size n x).run P w = .ok news.toArray w)
    (hroom : sLen + n ≤ sCap) (ho : ∀ v ∈ news, oneV v = true) (hc : ∀ j, j < news.length → (w.cell? ⟨b, o + sLen * i.size + j, none⟩).isSome = true) (hz : ∀ j, j < news.length → w.frozen? ⟨b, o + sLen * i.size + j, none⟩ = false) :
    (Builtin.append_ ts r #[.slice (some ⟨b, o, none⟩) sLen sCap, x]).run P w = .ok (.slice (some ⟨b, o, none⟩) (sLen + n) sCap) (setL b (o + sLen * i.size) news w) := by
  have hst := run_storeCells_at P b (o + sLen * i.size) news 0 w ho (by simpa using hc) (by simpa using hz)
  have hm : (match dx with | .int _ => true | _ => false) = false := by
    cases dx <;> first | rfl | exact absurd rfl (hni _)
  simp only [Nat.add_zero] at hst
  unfold Builtin.append_
  simp [h0, h1, run_underlying' P w ty _ ht, run_underlying' P w tx _ hx, sizeOf, typeInfo, hi, hn, hroom, hf, add_none, hst]

theorem run_append_same' (ty tx e r : TypeId) (i : TypeInfo) (ts : Array TypeId) (h0 : ts[0]? = some ty) (h1 : ts[1]? = some tx) (ht : P.underlying ty = some (.slice e)) {dx : TypeDesc} (hx : P.underlying tx = some dx) (hni : ∀ k, dx ≠ .int k)
    (hi : P.info? e = some i) (base : Option Addr) (sLen sCap : Nat) (x : Value) (hn : (Builtin.lenOf x).run P w = .ok 0 w) (hf : (Builtin.firstCells i.size 0 x).run P w = .ok #[] w)
    (hroom : sLen ≤ sCap) : (Builtin.append_ ts r #[.slice base sLen sCap, x]).run P w = .ok (.slice base sLen sCap) w := by
  have hm : (match dx with | .int _ => true | _ => false) = false := by
    cases dx <;> first | rfl | exact absurd rfl (hni _)
  unfold Builtin.append_
  cases base with
  | none => simp [h0, h1, run_underlying' P w ty _ ht, run_underlying' P w tx _ hx, sizeOf, typeInfo, hi, hn, hroom, hf]
  | some a => simp [h0, h1, run_underlying' P w ty _ ht, run_underlying' P w tx _ hx, sizeOf, typeInfo, hi, hn, hroom, hf, storeCells]

theorem run_append_grow' (ty tx e r : TypeId) (i : TypeInfo) (z : Value) (ts : Array TypeId) (h0 : ts[0]? = some ty) (h1 : ts[1]? = some tx) (ht : P.underlying ty = some (.slice e)) {dx : TypeDesc} (hx : P.underlying tx = some dx) (hni : ∀ k, dx ≠ .int k)
    (hi : P.info? e = some i) (hz : i.zero = some z) (base : Option Addr) (sLen sCap n : Nat) (x : Value) (olds news : List Value) (hn : (Builtin.lenOf x).run P w = .ok n w) (hf : (Builtin.firstCells i.size n x).run P w.drew = .ok news.toArray w.drew)
    (hfo : (Builtin.firstCells i.size sLen (.slice base sLen sCap)).run P w.drew = .ok olds.toArray w.drew)
    (hg : sCap < sLen + n) (h63 : ((sLen + n : Nat) : Int) ≤ 9223372036854775807) (hfit : Builtin.nextslicecap (sLen + n) sCap * i.bytes ≤ 281474976710656) :
    (Builtin.append_ ts r #[.slice base sLen sCap, x]).run P w =
      .ok (.slice (some ⟨w.heap.size, 0, none⟩) (sLen + n) (grownCap w (sLen + n) sCap e))
        (w.drew.alloc (.cells (olds.toArray ++ news.toArray ++ Builtin.zeroCells z.cells (grownCap w (sLen + n) sCap e - (sLen + n))) e)) := by
  have hn' : ¬ (sLen + n ≤ sCap) := by omega
  have h63' : ¬ (9223372036854775807 < ((sLen : Int) + (n : Int))) := by omega
  have h48' : ¬ (281474976710656 < Builtin.nextslicecap (sLen + n) sCap * i.bytes) := by omega
  have hm : (match dx with | .int _ => true | _ => false) = false := by
    cases dx <;> first | rfl | exact absurd rfl (hni _)
  have hfo' := hfo
  unfold Builtin.append_
  simp [h0, h1, run_underlying' P w ty _ ht, run_underlying' P w tx _ hx, sizeOf, typeInfo, zeroValue, hi, hz, hn, hn', h63', h48', Question.forced, hf, hfo, newRow, grownCap]
  congr 2
  apply Array.ext'
  simp [List.append_assoc]
end

theorem zeroQ_spec {P : Program} {t : TypeId} {z : List AV} (h : zeroQ P t = some z) :
    ∃ i v, P.info? t = some i ∧ i.zero = some v ∧ z = v.cells.toList.map ofC0 ∧ (∀ a ∈ z, a.isJunk = false) ∧ v.cells.size = i.size ∧ z.length = P.cellsOf t := by
  unfold zeroQ at h
  split at h
  · rename_i i hi
    split at h
    · rename_i v hv
      split at h
      · rename_i hc
        cases h
        refine ⟨i, v, hi, hv, rfl, ?_, hc.2, ?_⟩
        · intro a ha
          have := List.all_eq_true.1 hc.1 a ha
          simpa using this
        · simp [Program.cellsOf, hi, hc.2]
      · cases h
    · cases h
  · cases h
theorem ofC0_cell {v : Value} (h : (ofC0 v).isJunk = false) : (ofC0 v).isCell = true := by
  unfold ofC0 at *
  split <;> first | rfl | (simp_all [AV.isJunk])
theorem zero_cells {P : Program} {t : TypeId} {z : List AV} (h : zeroQ P t = some z) (G : Gh) :
    ∃ i v, P.info? t = some i ∧ i.zero = some v ∧ v.cells.size = i.size ∧ z.length = P.cellsOf t ∧ P.cellsOf t = i.size ∧ VRL G z v.cells.toList ∧ (∀ x ∈ v.cells.toList, oneV x = true) ∧ (∀ x ∈ z, x.isCell = true) := by
  obtain ⟨i, v, h1, h2, rfl, h4, h5, h6⟩ := zeroQ_spec h
  have hr : VRL G (v.cells.toList.map ofC0) v.cells.toList := by
    have := VRL.map (G := G) (f := ofC0) (g := id) v.cells.toList fun x _ => ofC0_VR G x
    simpa using this
  have hcell : ∀ x ∈ v.cells.toList.map ofC0, x.isCell = true := fun x hx => by
    obtain ⟨y, hy, rfl⟩ := List.mem_map.1 hx
    exact ofC0_cell (h4 _ hx)
  refine ⟨i, v, h1, h2, h5, h6, by simp [Program.cellsOf, h1], hr, fun x hx => ?_, hcell⟩
  exact (ofC0_VR G x).one (hcell _ (List.mem_map.2 ⟨x, hx, rfl⟩))

/-- what is appended: how much it is, and its cells, in a world where what is known stands -/
theorem elems_src {P : Program} {G : Gh} {w : World} {x : AV} {v : Value} {xs : List AV} {sz : Nat} (hx : VR G x v) (h : elemsOf x = some xs) (hs : sizesOk sz xs = true) (hI : ∀ b o v, G.I b o = some v → w.cell? ⟨b, o, none⟩ = some v) :
    (Builtin.lenOf v).run P w = .ok xs.length w ∧ ∃ fl news, flatQ xs = some fl ∧ fl.length = xs.length * sz ∧ VRL G fl news ∧ (Builtin.firstCells sz xs.length v).run P w = .ok news.toArray w := by
  unfold elemsOf at h
  split at h
  · rename_i es tok
    cases h
    cases hx with
    | nils _ ad _ => exact ⟨rfl, [], [], rfl, by simp, .nil, by cases ad <;> simp [Builtin.firstCells, run_loadCells_zero]⟩
    | slice _ _ fl b o cap sz' k1 k2 k3 k4 k5 =>
      obtain ⟨vs, v1, v2⟩ := k3.vals
      have hl := flatQ_len' k2 hs
      have hlv := v1.length
      refine ⟨by simp [Builtin.lenOf], fl, vs, k2, hl, v1, ?_⟩
      exact run_firstCells_some (P := P) w sz xs.length ⟨b, o, none⟩ _ _ vs (by rw [hlv, hl]) fun j u hj => by rw [add_none]; exact hI _ _ _ (v2 j u hj)
  · rename_i s
    cases h
    obtain ⟨p, rfl, rfl⟩ := hx.inv_str
    have hlen : p.data.toList.length = p.size := by rw [Array.length_toList]; rfl
    have hfl : ∀ l : List UInt8, flatQ (l.map fun b => AV.int .u8 b.toNat) = some (l.map fun b => AV.int .u8 b.toNat) := fun l => by
      induction l with
      | nil => rfl
      | cons a l ih => simp [flatQ, AV.cells?, ih]
    refine ⟨by simp [Builtin.lenOf, hlen], _, p.data.toList.map (fun b => Value.int .u8 b.toNat), hfl _, ?_, VRL.map _ fun b _ => .int _ _, ?_⟩
    · cases hp : p.data.toList with
      | nil => simp
      | cons a l =>
        rw [hp] at hs
        simp [sizesOk, AV.cells?] at hs
        simp [← hs.1]
    · simp only [Builtin.firstCells, List.length_map, hlen, Sem.run_pure]
      have hx : p.extract 0 p.size = p := by simp
      rw [hx]
      congr 1
      apply Array.ext'
      simp
  · cases h

/-- a new row whose first cells stay as they are, with a token at its frontier -/
theorem Inv.newTok {w0 : World} {B : Nat} {G : Gh} {S : St} {w : World} (hi : Inv w0 B G S w) (cells : Array Value) (ty : TypeId) {fl : List AV} {vs : List Value} (hv : VRL G fl vs)
    (hc : ∀ (j : Nat) v, vs[j]? = some v → cells[j]? = some v) (t : Nat) (T' : List Nat) (h1 : T'[t]? = some fl.length) (h2 : ∀ u, u ≠ t → T'[u]? = S.T[u]?) (h3 : ∀ n, S.T[t]? = some n → n < fl.length) :
    ∃ G', Inv w0 B G' { S with T := T' } (w.alloc (.cells cells ty)) ∧ Ext G w G' (w.alloc (.cells cells ty)) ∧ VRI G' fl w.heap.size 0 ∧ G'.nu = G.nu ∧ G'.fr t = some fl.length ∧ G'.tau t = some (w.heap.size, cells.size) := by
  let G' : Gh := { G with I := fun b o => if b = w.heap.size then vs[o]? else G.I b o, tau := fun u => if u = t then some (w.heap.size, cells.size) else G.tau u, fr := fun u => if u = t then some fl.length else G.fr u }
  have hlen := hv.length
  have hIlt : ∀ b o v, G.I b o = some v → b < w.heap.size := fun b o v h => World.block_lt_of_cell? w _ (hi.imm b o v h)
  have hI : ∀ b o v, G.I b o = some v → G'.I b o = some v := fun b o v h => by
    have := hIlt b o v h
    show (if b = w.heap.size then vs[o]? else G.I b o) = some v
    rw [if_neg (by omega)]; exact h
  have hIn : ∀ b o, b < w.heap.size → G'.I b o = G.I b o := fun b o h => by
    show (if b = w.heap.size then vs[o]? else G.I b o) = _
    rw [if_neg (by omega)]
  have le : Gle G G' := by
    refine ⟨hI, fun _ _ h => h, fun _ _ _ h => h, fun u n h => ?_⟩
    by_cases hu : u = t
    · subst hu
      have hn := h3 n (by rw [← hi.fr]; exact h)
      exact ⟨fl.length, by simp [G'], by omega, fun e => by omega⟩
    · exact ⟨n, by simp [G', hu, h], Nat.le_refl _, fun _ => by simp [G', hu]⟩
  have htau : ∀ u x, G'.tau u = some x → (u = t ∧ x = (w.heap.size, cells.size)) ∨ (u ≠ t ∧ G.tau u = some x) := fun u x h => by
    by_cases hu : u = t
    · have : G'.tau u = some (w.heap.size, cells.size) := by simp [G', hu]
      rw [h] at this; cases this; exact .inl ⟨hu, rfl⟩
    · exact .inr ⟨hu, by simpa [G', hu] using h⟩
  have hlt : ∀ u, u < S.T.length → u < T'.length := fun u hu => by
    by_cases hut : u = t
    · subst hut; exact (List.getElem?_eq_some_iff.1 h1).1
    · have := h2 u hut
      rw [List.getElem?_eq_getElem hu] at this
      exact (List.getElem?_eq_some_iff.1 this).1
  have hblk : ∀ u b m, G.tau u = some (b, m) → b < w.heap.size := fun u b m h => by
    obtain ⟨b', m', _, _, _, k1, _, k3, _⟩ := hi.tok u _ (List.getElem?_eq_getElem (hi.taud u _ h))
    rw [h] at k1; cases k1; exact lt_of_heap k3
  have hphi : ∀ e b, G.phi e = some b → b < w.heap.size := fun e b h => by
    obtain ⟨b', _, k1, _, k3, _⟩ := hi.box e _ (List.getElem?_eq_getElem (hi.phid e _ h))
    rw [h] at k1; cases k1; exact lt_of_heap k3
  refine ⟨G', ⟨hi.gl, hi.below.alloc hi.base _, Nat.le_trans hi.base (by simp), fun b o v h => ?_, fun u => ?_, fun e bx h => ?_, hi.phid, hi.phij, fun u n h => ?_, fun u x h => ?_, fun u u' b m m' k1 k2 => ?_⟩, ⟨le, by simp, fun _ _ h => .inl h, fun u x h => ?_, fun b o v h => ?_, fun b hb _ _ => heap_alloc_lt w _ hb⟩, ?_, rfl, by simp [G'], by simp [G']⟩
  · by_cases hb : b = w.heap.size
    · subst hb
      have h' : vs[o]? = some v := by simpa [G'] using h
      rw [World.cell?_alloc_new]; exact hc o v h'
    · have h' : G.I b o = some v := by simpa [G', hb] using h
      rw [World.cell?_alloc_lt w _ _ (hIlt b o v h')]
      exact hi.imm b o v h'
  · by_cases hu : u = t
    · subst hu; simp [G', h1]
    · simp [G', hu, h2 u hu, hi.fr]
  · obtain ⟨b, vs', k1, k2, k3, k4, k5, k6, k7, k8⟩ := hi.box e bx h
    exact ⟨b, vs', k1, k2, by rw [heap_alloc_lt w _ (lt_of_heap k3)]; exact k3, k4.mono le, fun o => by rw [hIn b o (lt_of_heap k3)]; exact k5 o, k6, k7, k8⟩
  · by_cases hu : u = t
    · subst hu
      rw [h1] at h; cases h
      refine ⟨w.heap.size, cells.size, cells, ty, (0, 0), by simp [G'], hi.base, heap_alloc_at w _, Nat.le_refl _, fun o ho => ?_, fun o _ => by simp, fun e he => ?_⟩
      · show (if w.heap.size = w.heap.size then vs[o]? else _) = none
        rw [if_pos rfl, List.getElem?_eq_none (by omega)]
      · have := hphi e _ he; omega
    · rw [h2 u hu] at h
      obtain ⟨b, m, vs', ty', fz, k1, k2, k3, k4, k5, k6, k7⟩ := hi.tok u n h
      refine ⟨b, m, vs', ty', fz, by simp [G', hu, k1], k2, by rw [heap_alloc_lt w _ (lt_of_heap k3)]; exact k3, k4, fun o ho => by rw [hIn b o (lt_of_heap k3)]; exact k5 o ho, fun o ho => ?_, k7⟩
      rw [World.frozen?_of_block (w := w) (heap_alloc_lt w _ (lt_of_heap k3))]; exact k6 o ho
  · rcases htau u x h with ⟨rfl, _⟩ | ⟨_, h⟩
    · exact (List.getElem?_eq_some_iff.1 h1).1
    · exact hlt u (hi.taud u x h)
  · rcases htau u _ k1 with ⟨e1, e2⟩ | ⟨e1, e2⟩ <;> rcases htau u' _ k2 with ⟨f1, f2⟩ | ⟨f1, f2⟩
    · rw [e1, f1]
    · cases e2; have := hblk _ _ _ f2; omega
    · cases f2; have := hblk _ _ _ e2; omega
    · exact hi.tauj u u' b m m' e2 f2
  · rcases htau u x h with ⟨_, rfl⟩ | ⟨_, h⟩
    · exact .inr (Nat.le_refl _)
    · exact .inl h
  · by_cases hb : b = w.heap.size
    · exact .inr (.inl (by omega))
    · exact .inl (by simpa [G', hb] using h)
  · exact VRI.of_vals (hv.mono le) fun j v hj => by
      show (if w.heap.size = w.heap.size then vs[0 + j]? else _) = some v
      rw [if_pos rfl, Nat.zero_add]; exact hj

/-- what lies behind the frontier is written, and the frontier moves on -/
theorem Inv.pushTok {w0 : World} {B : Nat} {G : Gh} {S : St} {w : World} (hi : Inv w0 B G S w) {t b m pos : Nat} {fl : List AV} {vs : List Value} (hv : VRL G fl vs) (ho : fl ≠ [])
    (ht : S.T[t]? = some pos) (hb : G.tau t = some (b, m)) (hm : pos + fl.length ≤ m) :
    (∀ j, j < vs.length → (w.cell? ⟨b, pos + j, none⟩).isSome = true) ∧ (∀ j, j < vs.length → w.frozen? ⟨b, pos + j, none⟩ = false) ∧
    ∃ G', Inv w0 B G' { S with T := S.T.set t (pos + fl.length) } (setL b pos vs w) ∧ Gle G G' ∧ G'.nu = G.nu ∧ G'.phi = G.phi ∧ G'.tau = G.tau ∧ VRI G' fl b pos ∧ G'.fr t = some (pos + fl.length) ∧
      (∀ x o v, G'.I x o = some v → G.I x o = some v ∨ (x = b ∧ pos ≤ o)) := by
  obtain ⟨b', m', cs, ty, fz, k1, k2, k3, k4, k5, k6, k7⟩ := hi.tok t pos ht
  rw [hb] at k1; cases k1
  have hlen := hv.length
  have hpl : 0 < fl.length := List.length_pos_iff.2 ho
  let G' : Gh := { G with I := fun x o => if x = b ∧ pos ≤ o ∧ o < pos + vs.length then vs[o - pos]? else G.I x o, fr := fun u => if u = t then some (pos + fl.length) else G.fr u }
  have hI : ∀ x o v, G.I x o = some v → G'.I x o = some v := fun x o v h => by
    show (if x = b ∧ pos ≤ o ∧ o < pos + vs.length then vs[o - pos]? else G.I x o) = some v
    rw [if_neg]
    · exact h
    · rintro ⟨rfl, h1, _⟩; rw [k5 o h1] at h; cases h
  have hIn : ∀ x o, x ≠ b → G'.I x o = G.I x o := fun x o h => by
    show (if x = b ∧ pos ≤ o ∧ o < pos + vs.length then vs[o - pos]? else G.I x o) = _
    rw [if_neg (fun h' => h h'.1)]
  have hIo : ∀ o, o < pos → G'.I b o = G.I b o := fun o h => by
    show (if b = b ∧ pos ≤ o ∧ o < pos + vs.length then vs[o - pos]? else G.I b o) = _
    rw [if_neg (fun h' => by omega)]
  have hTt : t < S.T.length := hi.taud t _ hb
  have le : Gle G G' := by
    refine ⟨hI, fun _ _ h => h, fun _ _ _ h => h, fun u n h => ?_⟩
    by_cases hu : u = t
    · subst hu
      rw [hi.fr, ht] at h; cases h
      exact ⟨pos + fl.length, by simp [G'], by omega, fun e => by omega⟩
    · exact ⟨n, by simp [G', hu, h], Nat.le_refl _, fun _ => rfl⟩
  have hsame := setL_heap_same vs pos w cs ty fz k3
  have hputl := putL_toList vs pos cs (by omega)
  refine ⟨fun j hj => ?_, fun j hj => k6 _ (by omega), G', ⟨hi.gl, setL_below k2 vs pos w hi.below, by rw [setL_size]; exact hi.base, fun x o v h => ?_, fun u => ?_, fun e bx h => ?_, hi.phid, hi.phij, fun u n h => ?_, fun u x h => ?_, hi.tauj⟩, le, rfl, rfl, rfl, ?_, by simp [G'], fun x o v h => ?_⟩
  · rw [cell_of_heap k3]; simp; omega
  · by_cases hx : x = b
    · subst hx
      rw [cell_of_heap hsame]
      by_cases hr : pos ≤ o ∧ o < pos + vs.length
      · have h' : vs[o - pos]? = some v := by simpa [G', hr.1, hr.2] using h
        have : (putL pos vs cs)[o]? = (putL pos vs cs).toList[o]? := by simp
        rw [this, hputl, List.getElem?_append_right (by simp; omega), List.getElem?_append_left (by simp; omega)]
        have e : o - (List.take pos cs.toList).length = o - pos := by simp; omega
        rw [e]; exact h'
      · have h' : G.I x o = some v := by
          have : G'.I x o = G.I x o := by
            show (if x = x ∧ pos ≤ o ∧ o < pos + vs.length then vs[o - pos]? else G.I x o) = _
            rw [if_neg (fun h' => hr ⟨h'.2.1, h'.2.2⟩)]
          rw [← this]; exact h
        have hlt : o < pos := by
          rcases Nat.lt_or_ge o pos with h1 | h1
          · exact h1
          · rw [k5 o h1] at h'; cases h'
        have hc := hi.imm x o v h'
        rw [cell_of_heap k3] at hc
        have : (putL pos vs cs)[o]? = (putL pos vs cs).toList[o]? := by simp
        rw [this, hputl, List.getElem?_append_left (by simp; omega), List.getElem?_take, if_pos hlt]
        simpa using hc
    · rw [hIn x o hx] at h
      rw [World.cell?_of_block (w := w) (setL_heap_other vs pos w x hx)]
      exact hi.imm x o v h
  · by_cases hu : u = t
    · subst hu; simp [G', hTt]
    · simp [G', hu, hi.fr, List.getElem?_set_ne (Ne.symm hu)]
  · obtain ⟨x, vs', x1, x2, x3, x4, x5, x6, x7, x8⟩ := hi.box e bx h
    have hne : x ≠ b := fun e' => k7 e (by rw [← e']; exact x1)
    exact ⟨x, vs', x1, x2, by rw [setL_heap_other vs pos w x hne]; exact x3, x4.mono le, fun o => by rw [hIn x o hne]; exact x5 o, x6, x7, x8⟩
  · by_cases hu : u = t
    · subst hu
      rw [List.getElem?_set_self hTt] at h; cases h
      refine ⟨b, m, _, ty, fz, hb, k2, hsame, by rw [putL_size]; exact k4, fun o ho => ?_, fun o ho => ?_, k7⟩
      · show (if b = b ∧ pos ≤ o ∧ o < pos + vs.length then vs[o - pos]? else G.I b o) = none
        rw [if_neg (fun h' => by omega)]
        exact k5 o (by omega)
      · have : (setL b pos vs w).frozen? ⟨b, o, none⟩ = w.frozen? ⟨b, o, none⟩ := by simp [World.frozen?, hsame, k3]
        rw [this]; exact k6 o ho
    · rw [List.getElem?_set_ne (Ne.symm hu)] at h
      obtain ⟨x, m', vs', ty', fz', x1, x2, x3, x4, x5, x6, x7⟩ := hi.tok u n h
      have hne : x ≠ b := fun e' => hu (hi.tauj u t b m' m (by rw [← e']; exact x1) hb)
      have hh := setL_heap_other vs pos w x hne
      exact ⟨x, m', vs', ty', fz', x1, x2, by rw [hh]; exact x3, x4, fun o ho => by rw [hIn x o hne]; exact x5 o ho, fun o ho => by rw [World.frozen?_of_block (w := w) hh]; exact x6 o ho, x7⟩
  · have := hi.taud u x h; simpa using this
  · exact VRI.of_vals (hv.mono le) fun j v hj => by
      have hj' := (List.getElem?_eq_some_iff.1 hj).1
      show (if b = b ∧ pos ≤ pos + j ∧ pos + j < pos + vs.length then vs[pos + j - pos]? else _) = some v
      rw [if_pos ⟨rfl, by omega, by omega⟩, show pos + j - pos = j by omega]; exact hj
  · by_cases hc : x = b ∧ pos ≤ o ∧ o < pos + vs.length
    · exact .inr ⟨hc.1, hc.2.1⟩
    · exact .inl (by
        have : G'.I x o = G.I x o := by
          show (if x = b ∧ pos ≤ o ∧ o < pos + vs.length then vs[o - pos]? else G.I x o) = _
          rw [if_neg hc]
        rw [← this]; exact h)

theorem Inv.drew {w0 : World} {B : Nat} {G : Gh} {S : St} {w : World} (hi : Inv w0 B G S w) : Inv w0 B G S w.drew :=
  ⟨hi.gl, hi.below.drew, hi.base, hi.imm, hi.fr, hi.box, hi.phid, hi.phij, hi.tok, hi.taud, hi.tauj⟩
theorem LInv.drew {B : Nat} {G : Gh} {w : World} {dep : Nat} {b : Nat → Nat × List AV} (h : LInv B G w dep b) : LInv B G w.drew dep b := ⟨h.box, h.inj⟩
theorem Ext.drew {G G' : Gh} {w w' : World} (h : Ext G w G' w') : Ext G w G' w'.drew := ⟨h.le, h.size, h.phi, h.tau, h.I, h.keep⟩
theorem Pre.drew {F : Fix} {fs : FS} {G : Gh} {w : World} (h : Pre F fs G w) : Pre F fs G w.drew := ⟨h.inv.drew, h.ext.drew, h.loc.drew⟩

/-- the values of a row's cells -/
theorem VRL.app_get {G : Gh} {x y : List AV} {a b : List Value} (h : VRL G x a) (k : VRL G y b) {z : List Value} (j : Nat) (v : Value) (hj : (a ++ b)[j]? = some v) : (a.toArray ++ b.toArray ++ z.toArray)[j]? = some v := by
  have : (a.toArray ++ b.toArray ++ z.toArray)[j]? = (a ++ b ++ z)[j]? := by simp
  rw [this, List.getElem?_append_left (List.getElem?_eq_some_iff.1 hj).1]
  exact hj

theorem evAppend_run {F : Fix} {P : Program} {fs : FS} {G : Gh} {w : World} {i : Nat} {ts : Array TypeId} {rt : TypeId} {s x r : AV} {sv xv : Value} {S' : St} (hp : Pre F fs G w) (hs : VR G s sv) (hx : VR G x xv)
    (h : evAppend P ts.toList s x fs.S = some (r, S')) :
    ∃ G' w' v, (Builtin.append_ ts rt #[sv, xv]).run P w = .ok v w' ∧ Post F fs.c i G fs.b S' r G' w' v := by
  unfold evAppend at h
  split at h
  · rename_i ty tx tl hts
    have h0 : ts[0]? = some ty := by rw [← Array.getElem?_toList, hts]; rfl
    have h1 : ts[1]? = some tx := by rw [← Array.getElem?_toList, hts]; rfl
    split at h
    · rename_i e he hu
      have ht := sliceQ_spec he
      obtain ⟨dx, hdx, hni⟩ : ∃ dx, P.underlying tx = some dx ∧ ∀ k, dx ≠ .int k := by
        split at hu
        · cases hu
        · cases hu
        · rename_i d hne hd
          exact ⟨d, hd, fun k hk => hne k hk⟩
      split at h
      · rename_i es tok xs hxs
        split at h
        · cases h
        · rename_i z hz
          obtain ⟨ii, zv, z1, z2, z3, z4, z5, z6, z7, z8⟩ := zero_cells hz G
          split at h
          · rename_i hc
            obtain ⟨c1, c2, c3, c4, c5, c6, c7⟩ := hc
            have himm := hp.inv.imm
            obtain ⟨n1, flx, news, f1, f2, f3, f4⟩ := elems_src (P := P) hx hxs c7 himm
            obtain ⟨_, flx', news', f1', f2', f3', f4'⟩ := elems_src (P := P) (w := w.drew) hx hxs c7 himm
            have hnl := f3.length
            have hb1 : ii.bytes = P.bytesOf e := by simp [Program.bytesOf, z1]
            split at h
            · rename_i hnil
              subst hnil
              cases h
              obtain ⟨ad, cap, rfl, hcap⟩ : ∃ ad cap, sv = .slice ad es.length cap ∧ es.length ≤ cap := by
                cases hs with
                | nils _ ad _ => exact ⟨ad, 0, rfl, Nat.le_refl _⟩
                | slice _ _ fl b o cap sz k1 k2 k3 k4 k5 => exact ⟨_, cap, rfl, k1⟩
              simp [flatQ] at f1
              subst f1
              cases f3
              exact ⟨G, w, _, run_append_same' ty tx e rt ii ts h0 h1 ht hdx hni z1 ad es.length cap xv n1 (by rw [← z5]; exact f4) hcap, Post.same hp hs⟩
            · rename_i hne
              have hxpos : 0 < xs.length := List.length_pos_iff.2 hne
              have hszpos : 0 < P.cellsOf e := by omega
              have c45 : es.length + xs.length ≤ 70368744177664 := Nat.le_trans (Nat.le_mul_of_pos_right _ hszpos) c5
              have hflx : 0 < flx.length := by rw [f2]; exact Nat.mul_pos hxpos hszpos
              rw [f1] at f1'; cases f1'
              split at h
              · -- no room
                cases h
                obtain ⟨ad, fl, olds, rfl, g1, g2, g3, g4⟩ : ∃ ad fl olds, sv = .slice ad es.length es.length ∧ flatQ es = some fl ∧ fl.length = es.length * P.cellsOf e ∧ VRL G fl olds ∧
                    (Builtin.firstCells ii.size es.length (.slice ad es.length es.length)).run P w.drew = .ok olds.toArray w.drew := by
                  cases hs with
                  | nils _ ad _ => exact ⟨ad, [], [], rfl, rfl, by simp, .nil, by cases ad <;> simp [Builtin.firstCells, run_loadCells_zero]⟩
                  | slice _ _ fl b o cap sz k1 k2 k3 k4 k5 =>
                    simp only [TokR] at k4
                    subst k4
                    obtain ⟨vs, v1, v2⟩ := k3.vals
                    have hl := flatQ_len' k2 c6
                    have hlv := v1.length
                    exact ⟨_, fl, vs, rfl, k2, hl, v1, run_firstCells_some (P := P) w.drew ii.size es.length ⟨b, o, none⟩ _ _ vs (by rw [hlv, hl, z5]) fun j u hj => by rw [add_none]; exact himm _ _ _ (v2 j u hj)⟩
                have holl := g3.length
                have hrun := run_append_grow' (P := P) (w := w) ty tx e rt ii zv ts h0 h1 ht hdx hni z1 z2 ad es.length es.length xs.length xv olds news' n1 (by rw [← z5]; exact f4') g4 (by omega) (by omega)
                  (growslice_fits (by omega) (by rw [hb1]; omega))
                have hvv := g3.append f3'
                have hflen : (fl ++ flx).length = (es.length + xs.length) * P.cellsOf e := by simp [g2, f2, Nat.add_mul]
                obtain ⟨G', i1, i2, i3, i4, i5, i6⟩ := hp.inv.drew.newTok (olds.toArray ++ news'.toArray ++ Builtin.zeroCells zv.cells (grownCap w (es.length + xs.length) es.length e - (es.length + xs.length))) e hvv
                  (fun j v hj => by
                    have := VRL.app_get g3 f3' (z := (Builtin.zeroCells zv.cells (grownCap w (es.length + xs.length) es.length e - (es.length + xs.length))).toList) j v hj
                    simpa using this) fs.S.T.length (fs.S.T ++ [(es.length + xs.length) * P.cellsOf e]) (by simp [hflen]) (fun u hu => by
                    rcases Nat.lt_or_ge u fs.S.T.length with h' | h'
                    · rw [List.getElem?_append_left h']
                    · rw [List.getElem?_append_right h', List.getElem?_eq_none h', List.getElem?_eq_none (by simp; omega)]) (fun n hn => by simp at hn)
                refine ⟨G', _, _, hrun, ?_, i1, i2.le, hp.drew.ext.trans F.ie i2, hp.drew.loc.ext i2, fun _ _ h => absurd (congrFun (congrFun i4 _) _) h⟩
                have hge := grownCap_ge w (es.length + xs.length) es.length e
                have hlen : (es ++ xs).length = es.length + xs.length := by simp
                have hv : VR G' (.slice (es ++ xs) (.own fs.S.T.length ((es.length + xs.length) * P.cellsOf e))) (.slice (some ⟨w.drew.heap.size, 0, none⟩) (es ++ xs).length (grownCap w (es.length + xs.length) es.length e)) := by
                  refine .slice _ _ (fl ++ flx) _ 0 _ (P.cellsOf e) (by rw [hlen]; exact hge) (flatQ_append g1 f1) i3 ?_ (by rw [sizesOk_append, c6, c7]; rfl)
                  refine ⟨_, P.cellsOf e, by simp [hne], hszpos, i5, by omega, by rw [hflen, hlen], fun _ => ⟨_, rfl, i6, hflen, ?_⟩⟩
                  simp only [Array.size_append, size_zeroCells, List.size_toArray, holl, f3'.length, g2, f2, z3, ← z5]
                  have : grownCap w (es.length + xs.length) es.length e = es.length + xs.length + (grownCap w (es.length + xs.length) es.length e - (es.length + xs.length)) := by omega
                  have e2 := congrArg (· * P.cellsOf e) this
                  simp only [Nat.add_mul] at e2
                  omega
                rw [hlen] at hv
                exact hv
              · -- owned
                rename_i k pos
                split at h
                · rename_i hT
                  cases h
                  cases hs with
                  | nils _ _ htok => exact absurd rfl (htok _ _)
                  | slice _ _ fl b o cap sz k1 k2 k3 k4 k5 =>
                    obtain ⟨n, sz', t1, t2, t3, t4, t5, t6⟩ := k4
                    rw [hp.inv.fr, hT] at t3; cases t3
                    obtain ⟨m, rfl, t7, t8, t9⟩ := t6 rfl
                    have hl := flatQ_len' k2 c6
                    have hesz : sz' = P.cellsOf e := by
                      have : es.length * sz' = es.length * P.cellsOf e := by rw [← t5, hl]
                      exact Nat.eq_of_mul_eq_mul_left (List.length_pos_iff.2 t1) this
                    subst hesz
                    have hlen : (es ++ xs).length = es.length + xs.length := by simp
                    have hflen : (fl ++ flx).length = pos + xs.length * P.cellsOf e := by simp [t8, f2]
                    by_cases hroom : es.length + xs.length ≤ cap
                    · have hcm : (es.length + xs.length) * P.cellsOf e ≤ cap * P.cellsOf e := Nat.mul_le_mul_right _ hroom
                      rw [Nat.add_mul] at hcm
                      obtain ⟨p1, p2, G', p3, p4, p5, p6, p7, p8, p9, p10⟩ := hp.inv.pushTok f3 (List.length_pos_iff.1 hflx) hT t7 (by rw [f2]; omega)
                      have hposl : 0 + es.length * ii.size = pos := by rw [← z5, ← hl, t8]; omega
                      have hrun := run_append_room' (P := P) (w := w) ty tx e rt ii ts h0 h1 ht hdx hni z1 b 0 es.length cap xs.length xv news n1 (by rw [← z5]; exact f4) hroom
                        (fun v hv => by
                          obtain ⟨j, hj⟩ := List.mem_iff_getElem?.1 hv
                          have hjl := (List.getElem?_eq_some_iff.1 hj).1
                          obtain ⟨u, hu1, hu2⟩ := f3.get (List.getElem?_eq_getElem (show j < flx.length by omega))
                          rw [hj] at hu1; cases hu1
                          exact hu2.one (flatQ_isCell f1 _ (List.getElem_mem _))) (by rw [hposl]; exact p1) (by rw [hposl]; exact p2)
                      rw [hposl] at hrun
                      rw [f2] at p3 p9
                      have hext : Ext F.Ge F.we G' (setL b pos news w) := by
                        have e0 := hp.ext
                        refine ⟨e0.le.trans p4, by rw [setL_size]; exact e0.size, fun i' b' h' => e0.phi i' b' (by rw [← p6]; exact h'), fun t' x' h' => e0.tau t' x' (by rw [← p7]; exact h'), fun b' o' v' h' => ?_, fun b' hb' q1 q2 => ?_⟩
                        · rcases p10 b' o' v' h' with h' | ⟨rfl, h'⟩
                          · exact e0.I b' o' v' h'
                          · rcases e0.tau k _ t7 with h'' | h''
                            · have hk := F.ie.taud k _ h''
                              have hf : F.Ge.fr k = some (F.Se.T[k]) := by rw [F.ie.fr]; simp [hk]
                              obtain ⟨n', e5, e6, _⟩ := e0.le.fr k _ hf
                              rw [hp.inv.fr, hT] at e5; cases e5
                              exact .inr (.inr ⟨k, m, _, h'', hf, by omega⟩)
                            · exact .inr (.inl h'')
                        · have hbne : b' ≠ b := fun hbb => by
                            subst hbb
                            rcases e0.tau k _ t7 with h'' | h''
                            · exact q2 k m h''
                            · simp at h''; omega
                          rw [setL_heap_other news pos w b' hbne]
                          exact e0.keep b' hb' q1 q2
                      have hloc : LInv F.we.heap.size G' (setL b pos news w) F.cx.dep fs.b := by
                        have hl0 := hp.loc
                        refine ⟨fun d hd => ?_, fun d d' k' y1 y2 y3 y4 => hl0.inj d d' k' y1 y2 (by rw [← p5]; exact y3) (by rw [← p5]; exact y4)⟩
                        obtain ⟨q, vs', ty', q1, q2, q3, q4, q5, q6, q7, q8, q9⟩ := hl0.box d hd
                        have hqb : q ≠ b := fun hqq => q9 k m (by rw [hqq]; exact t7)
                        refine ⟨q, vs', ty', by rw [p5]; exact q1, q2, by rw [setL_heap_other news pos w q hqb]; exact q3, q4.mono p4, fun o => ?_, q6, q7, fun i' => by rw [p6]; exact q8 i', fun t' m' => by rw [p7]; exact q9 t' m'⟩
                        cases hI : G'.I q o with
                        | none => rfl
                        | some v =>
                          rcases p10 q o v hI with h' | ⟨h', _⟩
                          · rw [q5 o] at h'; cases h'
                          · exact absurd h' hqb
                      refine ⟨G', _, _, hrun, ?_, p3, p4, hext, hloc, fun _ _ h => absurd (congrFun (congrFun p5 _) _) h⟩
                      have hv : VR G' (.slice (es ++ xs) (.own k (pos + xs.length * P.cellsOf e))) (.slice (some ⟨b, 0, none⟩) (es ++ xs).length cap) := by
                        refine .slice _ _ (fl ++ flx) b 0 cap (P.cellsOf e) (by rw [hlen]; exact hroom) (flatQ_append k2 f1) ((k3.mono p4).append (by rw [Nat.zero_add, t8]; exact p8)) ?_ (by rw [sizesOk_append, c6, c7]; rfl)
                        exact ⟨_, P.cellsOf e, by simp [hne], hszpos, p9, by omega, by rw [hflen, hlen, Nat.add_mul]; omega, fun _ => ⟨m, rfl, by rw [p7]; exact t7, hflen, t9⟩⟩
                      rw [hlen] at hv
                      exact hv
                    · obtain ⟨vs, v1, v2⟩ := k3.vals
                      have hlv := v1.length
                      have hfo := run_firstCells_some (P := P) w.drew ii.size es.length ⟨b, 0, none⟩ es.length cap vs (by rw [hlv, hl, z5]) fun j u hj => by rw [add_none]; exact himm _ _ _ (v2 j u hj)
                      have hrun := run_append_grow' (P := P) (w := w) ty tx e rt ii zv ts h0 h1 ht hdx hni z1 z2 (some ⟨b, 0, none⟩) es.length cap xs.length xv vs news' n1 (by rw [← z5]; exact f4') hfo (by omega) (by omega)
                        (growslice_fits (by omega) (by rw [hb1]; omega))
                      have hvv := v1.append f3'
                      obtain ⟨G', i1, i2, i3, i4, i5, i6⟩ := hp.inv.drew.newTok (vs.toArray ++ news'.toArray ++ Builtin.zeroCells zv.cells (grownCap w (es.length + xs.length) cap e - (es.length + xs.length))) e hvv
                        (fun j v hj => by
                          have := VRL.app_get v1 f3' (z := (Builtin.zeroCells zv.cells (grownCap w (es.length + xs.length) cap e - (es.length + xs.length))).toList) j v hj
                          simpa using this) k (fs.S.T.set k (pos + xs.length * P.cellsOf e)) (by rw [hflen, List.getElem?_set_self (List.getElem?_eq_some_iff.1 hT).1]) (fun u hu => by
                          rw [List.getElem?_set_ne (Ne.symm hu)]) (fun n hn => by rw [hT] at hn; cases hn; rw [hflen, ← f2]; omega)
                      refine ⟨G', _, _, hrun, ?_, i1, i2.le, hp.drew.ext.trans F.ie i2, hp.drew.loc.ext i2, fun _ _ h => absurd (congrFun (congrFun i4 _) _) h⟩
                      have hge := grownCap_ge w (es.length + xs.length) cap e
                      have hv : VR G' (.slice (es ++ xs) (.own k (pos + xs.length * P.cellsOf e))) (.slice (some ⟨w.drew.heap.size, 0, none⟩) (es ++ xs).length (grownCap w (es.length + xs.length) cap e)) := by
                        refine .slice _ _ (fl ++ flx) _ 0 _ (P.cellsOf e) (by rw [hlen]; exact hge) (flatQ_append k2 f1) i3 ?_ (by rw [sizesOk_append, c6, c7]; rfl)
                        refine ⟨_, P.cellsOf e, by simp [hne], hszpos, i5, by omega, by rw [hflen, hlen, Nat.add_mul]; omega, fun _ => ⟨_, rfl, i6, hflen, ?_⟩⟩
                        simp only [Array.size_append, size_zeroCells, List.size_toArray, hlv, f3'.length, hl, f2, z3, ← z5]
                        have : grownCap w (es.length + xs.length) cap e = es.length + xs.length + (grownCap w (es.length + xs.length) cap e - (es.length + xs.length)) := by omega
                        have e2 := congrArg (· * P.cellsOf e) this
                        simp only [Nat.add_mul] at e2
                        omega
                      rw [hlen] at hv
                      exact hv
                · cases h
              · cases h
          · cases h
      · cases h
    · cases h
  · cases h
end Go.Proofs.YtmhidempoabehaaGreatDoor.AE
/- Structs and slices written out: the evaluator's are the model's. No condition. -/
namespace Go.Proofs.YtmhidempoabehaaGreatDoor.AE
set_option linter.unusedVariables false
set_option linter.unusedSimpArgs false
open Go Go.RowKit

theorem run_mapM_list {α β : Type} {P : Program} {w : World} (f : α → Sem β) (g : α → β) : ∀ (l : List α), (∀ x ∈ l, (f x).run P w = .ok (g x) w) → (l.mapM f).run P w = .ok (l.map g) w
  | [], _ => by simp
  | a :: l, h => by
    simp [List.mapM_cons, h a (by simp), run_mapM_list f g l fun x hx => h x (by simp [hx])]
theorem run_mapM {α β : Type} {P : Program} {w : World} (f : α → Sem β) (g : α → β) (l : Array α) (h : ∀ x ∈ l, (f x).run P w = .ok (g x) w) : (l.mapM f).run P w = .ok (l.map g) w := by
  rw [Array.mapM_eq_mapM_toList]
  simp [run_mapM_list f g l.toList fun x hx => h x (by simpa using hx)]
  exact Array.ext' (by simp)

theorem zipIdx_putL : ∀ (l : List Value) (off k : Nat) (cs : Array Value), (l.zipIdx k).foldl (fun cs (x : Value × Nat) => cs.setIfInBounds (off + x.2) x.1) cs = putL (off + k) l cs
  | [], _, _, _ => rfl
  | v :: l, off, k, cs => by
    rw [List.zipIdx_cons, List.foldl_cons, zipIdx_putL l off (k + 1)]
    rfl
theorem fold_putL (vs : Array Value) (off : Nat) (cs : Array Value) : vs.zipIdx.foldl (fun cs (x : Value × Nat) => cs.setIfInBounds (off + x.2) x.1) cs = putL off vs.toList cs := by
  rw [← Array.foldl_toList, Array.toList_zipIdx, zipIdx_putL]
  rfl

/-- parts, as they stand for each other -/
def PVR (G : Gh) : List (Nat × AV) → List (Nat × Value) → Prop
  | [], [] => True
  | (i, a) :: l, (j, v) :: m => i = j ∧ VR G a v ∧ PVR G l m
  | _, _ => False
theorem PVR.of_map {G : Gh} {t : Nat → AV} {a : Act} (h : ∀ x, VR G (t x) (a.tmps.getD x undef)) : ∀ (l : List (Nat × Operand)), PVR G (l.map fun p => (p.1, rho t p.2)) (l.map fun p => (p.1, a.eval p.2))
  | [] => trivial
  | (i, x) :: l => ⟨rfl, rho_VR h x, PVR.of_map h l⟩

theorem fillA_run {G : Gh} {place : Nat → Option (Nat × Nat)} : ∀ (ps : List (Nat × AV)) (qs : List (Nat × Value)) (z cs : List AV) (zv : Array Value), PVR G ps qs → VRL G z zv.toList → (∀ x ∈ z, x.isCell = true) →
    fillA place ps z = some cs → ∃ cells, Instr.fill place zv qs = some cells ∧ VRL G cs cells.toList ∧ (∀ x ∈ cs, x.isCell = true)
  | [], qs, z, cs, zv, hp, hz, hc, h => by
    cases qs with
    | nil => cases h; exact ⟨zv, rfl, hz, hc⟩
    | cons _ _ => exact hp.elim
  | (i, a) :: ps, qs, z, cs, zv, hp, hz, hc, h => by
    cases qs with
    | nil => exact hp.elim
    | cons q qs =>
      obtain ⟨j, v⟩ := q
      obtain ⟨rfl, hv, hps⟩ := hp
      simp only [fillA] at h
      split at h
      · rename_i off sz new e1 e2
        split at h
        · rename_i hsz
          split at h
          · rename_i cs' hw
            obtain ⟨n1, n2, n3⟩ := hv.cells e2
            have hl := n1.length
            have hlz := hz.length
            obtain ⟨hle, _⟩ := wrc_spec hw
            simp at hl hlz
            obtain ⟨cells, r1, r2, r3⟩ := fillA_run ps qs cs' cs (putL off v.cells.toList zv) hps (wrc_put hw n1 hz) (wrc_mem hw n3 hc) h
            refine ⟨cells, ?_, r2, r3⟩
            simp only [Instr.fill, e1]
            rw [if_neg (by simp; omega), fold_putL]
            exact r1
          · cases h
        · cases h
      · cases h

theorem evBuild_run {P : Program} {G : Gh} {w : World} {t : TypeId} {ps : List (Nat × AV)} {qs : Array (Nat × Value)} {r : AV} (hp : PVR G ps qs.toList) (h : evBuild P t ps = some r) :
    ∃ v, (Instr.build t qs).run P w = .ok v w ∧ VR G r v := by
  unfold evBuild at h
  split at h
  · rename_i hk
    split at h
    · rename_i z hz
      split at h
      · rename_i cs hf
        cases h
        obtain ⟨i, zv, z1, z2, z3, z4, z5, z6, z7, z8⟩ := zero_cells hz G
        have hzr : (zeroValue t).run P w = .ok zv w := by simp [zeroValue, typeInfo, z1, z2]
        unfold partsQ at hk
        split at hk
        · rename_i fs hu
          have hm : (fs.mapM fun f => do pure (f.offset, ← sizeOf f.type) : Sem (Array (Nat × Nat))).run P w = .ok (fs.map fun f => (f.offset, P.cellsOf f.type)) w := by
            refine run_mapM _ (fun f => (f.offset, P.cellsOf f.type)) fs fun f hf => ?_
            obtain ⟨fi, hfi⟩ := Option.isSome_iff_exists.1 ((Array.all_eq_true'.1 hk) f hf)
            simp [run_sizeOf' P w f.type fi hfi]
          have hpl : (fun i => (fs.map fun f => (f.offset, P.cellsOf f.type))[i]?) = placeQ P t := by
            funext j
            simp only [placeQ, hu, Array.getElem?_map]
            cases fs[j]? <;> rfl
          obtain ⟨cells, r1, r2, r3⟩ := fillA_run ps qs.toList z cs zv.cells hp z6 z8 (by rw [← hpl] at hf; exact hf)
          refine ⟨.agg cells, ?_, .agg _ _ r2⟩
          simp only [Instr.build, Sem.run_bind, hzr, Result.andThen_ok, run_underlying' P w t _ hu, hm, r1, Sem.run_pure]
        · rename_i n e hu
          obtain ⟨fi, hfi⟩ := Option.isSome_iff_exists.1 hk
          have hpl : (fun i => some (i * P.cellsOf e, P.cellsOf e)) = placeQ P t := by
            funext j
            simp only [placeQ, hu]
          obtain ⟨cells, r1, r2, r3⟩ := fillA_run ps qs.toList z cs zv.cells hp z6 z8 (by rw [← hpl] at hf; exact hf)
          refine ⟨.agg cells, ?_, .agg _ _ r2⟩
          simp only [Instr.build, Sem.run_bind, hzr, Result.andThen_ok, run_underlying' P w t _ hu, run_sizeOf' P w e fi hfi, r1, Sem.run_pure]
        · cases hk
      · cases h
    · cases h
  · cases h

theorem evElems_run {G : Gh} {ag : Bool} {sz : Nat} : ∀ (ps : List (Nat × AV)) (qs : List (Nat × Value)) (k : Nat) (es : List AV) (cells : Array Value), PVR G ps qs → evElems ag sz k ps = some es → cells.size = (k + ps.length) * sz →
    ∃ cells' fl news, Instr.fill (fun i => some (i * sz, sz)) cells qs = some cells' ∧ flatQ es = some fl ∧ fl.length = es.length * sz ∧ es.length = ps.length ∧ sizesOk sz es = true ∧ VRL G fl news ∧ cells'.toList = cells.toList.take (k * sz) ++ news
  | [], qs, k, es, cells, hp, h, hs => by
    cases qs with
    | nil =>
      cases h
      refine ⟨cells, [], [], rfl, rfl, by simp, rfl, rfl, .nil, ?_⟩
      rw [List.take_of_length_le (by simp at hs ⊢; omega)]
      simp
    | cons _ _ => exact hp.elim
  | (i, a) :: ps, qs, k, es, cells, hp, h, hs => by
    cases qs with
    | nil => exact hp.elim
    | cons q qs =>
      obtain ⟨j, v⟩ := q
      obtain ⟨rfl, hv, hps⟩ := hp
      simp only [evElems] at h
      split at h
      · rename_i cs hcs
        split at h
        · rename_i hc
          obtain ⟨rfl, hlen, _⟩ := hc
          split at h
          · rename_i es' he
            cases h
            obtain ⟨n1, n2, n3⟩ := hv.cells hcs
            have hl := n1.length
            simp at hl
            simp only [List.length_cons] at hs
            have hks : i * sz + sz ≤ cells.size := by
              rw [hs, show (i + (ps.length + 1)) * sz = i * sz + sz + ps.length * sz by rw [Nat.add_mul, Nat.add_mul]; omega]
              omega
            obtain ⟨cells', fl, news, r1, r2, r3, r4, r5, r6, r7⟩ := evElems_run ps qs (i + 1) es' (putL (i * sz) v.cells.toList cells) hps he (by rw [putL_size, hs]; congr 1; omega)
            refine ⟨cells', cs ++ fl, v.cells.toList ++ news, ?_, by simp [flatQ, hcs, r2], by simp [hlen, r3, Nat.add_mul]; omega, by simp [r4], by simp [sizesOk, hcs, hlen, r5], n1.append r6, ?_⟩
            · simp only [Instr.fill]
              rw [if_neg (by simp; omega), fold_putL]
              exact r1
            · rw [r7, putL_toList _ _ _ (by simp; omega)]
              have e1 : (i + 1) * sz = i * sz + sz := by rw [Nat.add_mul]; omega
              have e2 : (List.take (i * sz) cells.toList ++ v.cells.toList).length = (i + 1) * sz := by simp; omega
              rw [← List.append_assoc, List.take_left' e2, List.append_assoc]
          · cases h
        · cases h
      · cases h

/-- a new row, all of which stays as it is -/
theorem Inv.newImm {w0 : World} {B : Nat} {G : Gh} {S : St} {w : World} (hi : Inv w0 B G S w) (ty : TypeId) {fl : List AV} {cells : Array Value} (hv : VRL G fl cells.toList) :
    ∃ G', Inv w0 B G' S (w.alloc (.cells cells ty)) ∧ Ext G w G' (w.alloc (.cells cells ty)) ∧ VRI G' fl w.heap.size 0 ∧ G'.nu = G.nu := by
  let G' : Gh := { G with I := fun b o => if b = w.heap.size then cells[o]? else G.I b o }
  have hIlt : ∀ b o v, G.I b o = some v → b < w.heap.size := fun b o v h => World.block_lt_of_cell? w _ (hi.imm b o v h)
  have hI : ∀ b o v, G.I b o = some v → G'.I b o = some v := fun b o v h => by
    have := hIlt b o v h
    show (if b = w.heap.size then cells[o]? else G.I b o) = some v
    rw [if_neg (by omega)]; exact h
  have hIn : ∀ b o, b < w.heap.size → G'.I b o = G.I b o := fun b o h => by
    show (if b = w.heap.size then cells[o]? else G.I b o) = _
    rw [if_neg (by omega)]
  have le : Gle G G' := ⟨hI, fun _ _ h => h, fun _ _ _ h => h, fun u n h => ⟨n, h, Nat.le_refl _, fun _ => rfl⟩⟩
  refine ⟨G', ⟨hi.gl, hi.below.alloc hi.base _, Nat.le_trans hi.base (by simp), fun b o v h => ?_, hi.fr, fun e bx h => ?_, hi.phid, hi.phij, fun u n h => ?_, hi.taud, hi.tauj⟩, ⟨le, by simp, fun _ _ h => .inl h, fun u x h => .inl h, fun b o v h => ?_, fun b hb _ _ => heap_alloc_lt w _ hb⟩, ?_, rfl⟩
  · by_cases hb : b = w.heap.size
    · subst hb
      have h' : cells[o]? = some v := by simpa [G'] using h
      rw [World.cell?_alloc_new]; exact h'
    · have h' : G.I b o = some v := by simpa [G', hb] using h
      rw [World.cell?_alloc_lt w _ _ (hIlt b o v h')]
      exact hi.imm b o v h'
  · obtain ⟨b, vs', k1, k2, k3, k4, k5, k6, k7, k8⟩ := hi.box e bx h
    exact ⟨b, vs', k1, k2, by rw [heap_alloc_lt w _ (lt_of_heap k3)]; exact k3, k4.mono le, fun o => by rw [hIn b o (lt_of_heap k3)]; exact k5 o, k6, k7, k8⟩
  · obtain ⟨b, m, vs', ty', fz, k1, k2, k3, k4, k5, k6, k7⟩ := hi.tok u n h
    refine ⟨b, m, vs', ty', fz, k1, k2, by rw [heap_alloc_lt w _ (lt_of_heap k3)]; exact k3, k4, fun o ho => by rw [hIn b o (lt_of_heap k3)]; exact k5 o ho, fun o ho => ?_, k7⟩
    rw [World.frozen?_of_block (w := w) (heap_alloc_lt w _ (lt_of_heap k3))]; exact k6 o ho
  · by_cases hb : b = w.heap.size
    · exact .inr (.inl (by omega))
    · exact .inl (by simpa [G', hb] using h)
  · exact VRI.of_vals (hv.mono le) fun j v hj => by
      show (if w.heap.size = w.heap.size then cells[0 + j]? else _) = some v
      rw [if_pos rfl, Nat.zero_add]; simpa using hj

theorem evBuildSlice_run {F : Fix} {P : Program} {fs : FS} {G : Gh} {w : World} {i : Nat} {t : TypeId} {n : Nat} {ps : List (Nat × AV)} {qs : Array (Nat × Value)} {r : AV} (hpre : Pre F fs G w) (hp : PVR G ps qs.toList) (h : evBuildSlice P t n ps = some r) :
    ∃ G' w' v, (Instr.buildSlice t n qs).run P w = .ok v w' ∧ Post F fs.c i G fs.b fs.S r G' w' v := by
  unfold evBuildSlice at h
  split at h
  · rename_i e he
    have hu := sliceQ_spec he
    split at h
    · rename_i z hz
      obtain ⟨ii, zv, z1, z2, z3, z4, z5, z6, z7, z8⟩ := zero_cells hz G
      split at h
      · rename_i hc
        obtain ⟨c1, c2, c3, c4⟩ := hc
        split at h
        · rename_i es hes
          cases h
          obtain ⟨cells, fl, news, r1, r2, r3, r4, r5, r6, r7⟩ := evElems_run ps qs.toList 0 es ((Array.range (n * P.cellsOf e)).map (zv.cells[· % zv.cells.size]!)) hp hes (by simp [c2])
          have hzr : (zeroValue e).run P w = .ok zv w := by simp [zeroValue, typeInfo, z1, z2]
          have hcl : cells.toList = news := by simpa using r7
          obtain ⟨G', i1, i2, i3, i4⟩ := hpre.inv.newImm e (fl := fl) (cells := cells) (by rw [hcl]; exact r6)
          refine ⟨G', w.alloc (.cells cells e), .slice (some ⟨w.heap.size, 0, none⟩) n n, ?_, ?_, i1, i2.le, hpre.ext.trans F.ie i2, hpre.loc.ext i2, fun _ _ h => absurd (congrFun (congrFun i4 _) _) h⟩
          · have h24 : ¬ (n * P.cellsOf e > 2 ^ 24) := by omega
            by_cases h0 : n * P.cellsOf e = 0
            · have hz0 : (Array.range 0 : Array Nat) = #[] := by rfl
              simp only [h0, hz0, Array.map_empty] at r1
              simp only [Instr.buildSlice, Sem.run_bind, run_underlying' P w t _ hu, Result.andThen_ok, run_sizeOf' P w e ii z1, h0, if_true, show ¬ (0 > 2 ^ 24) by omega, if_false, Sem.run_pure, Sem.run_ite, hz0, Array.map_empty, r1, newRow, run_newObj]
              rfl
            · simp only [Instr.buildSlice, Sem.run_bind, run_underlying' P w t _ hu, Result.andThen_ok, run_sizeOf' P w e ii z1, h24, h0, if_false, Sem.run_ite, hzr, r1, newRow, run_newObj, Sem.run_pure]
              rfl
          · have hlen : n = es.length := by omega
            rw [hlen]
            exact .slice es .clip fl _ 0 _ (P.cellsOf e) (Nat.le_refl _) r2 i3 rfl r5
        · cases h
      · cases h
    · cases h
  · cases h
end Go.Proofs.YtmhidempoabehaaGreatDoor.AE
