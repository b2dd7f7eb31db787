/- The evaluator over abstract values: definitions alone. No condition: nothing is claimed here. -/
import GoSem.Machine.Exec
import Derived.Attr
namespace Go.Proofs.Ytemggoaefohliaa.AE
set_option linter.unusedVariables false
set_option linter.unusedSimpArgs false
open Go

/-- What is known of a slice's spare room: nothing; there is none; it is owned by token t, whose frontier stands at pos. -/
inductive Tok where
  | non | clip | own (t pos : Nat)

inductive AV where
  | junk | undef
  | bool (b : Bool) | int (k : IntKind) (n : Int) | str (s : List UInt8)
  | agg (cs : List AV) | tup (vs : List AV)
  | slice (es : List AV) (tok : Tok)
  | nilp | ref (cs : List AV) | loc (dep d ver off : Nat) | ptr (id off : Nat)
  | fn (f : FuncId) (first cap : List AV)
  | iface (t : TypeId) (v : AV) | nilif

/-- does one cell hold it? -/
def AV.isCell : AV → Bool
  | .junk => false | .undef => false | .tup _ => false | .agg _ => false | _ => true
/-- the cells that hold it, if it can be stored -/
def AV.cells? : AV → Option (List AV)
  | .junk => none | .undef => none | .tup _ => none
  | .agg cs => if cs.all AV.isCell then some cs else none
  | .bool b => some [.bool b] | .int k n => some [.int k n] | .str s => some [.str s]
  | .slice es tok => some [.slice es tok] | .nilp => some [.nilp] | .ref cs => some [.ref cs]
  | .loc a b c d => some [.loc a b c d] | .ptr a b => some [.ptr a b] | .fn f a b => some [.fn f a b]
  | .iface t v => some [.iface t v] | .nilif => some [.nilif]

def upd {α : Type} (d : Nat) (v : α) (t : Nat → α) : Nat → α := fun x => if x = d then v else t x

structure HBox where
  ty : TypeId
  cs : List AV
structure St where
  H : List HBox
  T : List Nat
/-- a frame: temporaries; the local boxes (version, cells), by the slot that made them; a count for versions; what is outside -/
structure FS where
  t : Nat → AV
  b : Nat → Nat × List AV
  c : Nat
  S : St

inductive FP where
  | non | rl (d : Nat) | wl (d : Nat) | rh | wh

inductive OR where
  | val (v : AV) (b : Nat → Nat × List AV) (S : St) (fp : FP)
  | pan (v : AV) (S : St)

inductive Res where
  | ret (v : AV) | pan (v : AV)

abbrev Cal := FuncId → List AV → St → Option (Res × St)

/-! ### questions to the program's types -/
def aggQ (P : Program) (t : TypeId) : Bool :=
  match P.underlying t with
  | some (.struct _) => true | some (.array _ _) => true | _ => false
def sliceQ (P : Program) (t : TypeId) : Option TypeId :=
  match P.underlying t with
  | some (.slice e) => some e | _ => none
def arrQ (P : Program) (t : TypeId) : Option (Nat × TypeId) :=
  match P.underlying t with
  | some (.array n e) => some (n, e) | _ => none
def intQ (P : Program) (t : TypeId) : Option IntKind :=
  match P.underlying t with
  | some (.int k) => some k | _ => none
def strQ (P : Program) (t : TypeId) : Bool :=
  match P.underlying t with
  | some .string => true | _ => false
def concQ (P : Program) (t : TypeId) : Bool :=
  match P.underlying t with
  | some (.interface _) => false | none => false | _ => true
/-- offset and cells of a field (not of one without cells) -/
def fieldQ (P : Program) (s : TypeId) (f : Nat) : Option (Nat × Nat × Bool) :=
  match P.underlying s with
  | some (.struct fs) => match fs[f]? with
    | some fd => if (P.underlying fd.type).isSome ∧ P.cellsOf fd.type ≠ 0 then some (fd.offset, P.cellsOf fd.type, aggQ P fd.type) else none
    | none => none
  | _ => none
def ofC0 : Value → AV
  | .bool b => .bool b | .int k n => .int k n | .string s => .str s.data.toList
  | .pointer none => .nilp | .slice none 0 0 => .slice [] .clip | .nilIface => .nilif
  | _ => .junk
def ofC : Value → AV
  | .agg cs => .agg (cs.toList.map ofC0)
  | v => ofC0 v
def AV.isJunk : AV → Bool
  | .junk => true | _ => false
def zeroQ (P : Program) (t : TypeId) : Option (List AV) :=
  match P.info? t with
  | some i => match i.zero with
    | some z => if (z.cells.toList.map ofC0).all (fun a => !a.isJunk) ∧ z.cells.size = i.size then some (z.cells.toList.map ofC0) else none
    | none => none
  | none => none

/-! ### what an evaluation knows of the function that it is in -/
structure Ctx where
  P : Program
  esc : Tmp → Bool
  dep : Nat

def rho (t : Nat → AV) : Operand → AV
  | .tmp x => t x
  | .const v => ofC v
  | .global _ => .junk
  | .func f => .fn f [] []

/-! ### memory -/
def rdc (agg : Bool) (sz : Nat) (cs : List AV) : Option AV :=
  if agg then (if sz ≤ cs.length then some (.agg (cs.take sz)) else none) else cs.head?
def wrc (off : Nat) (new cs : List AV) : Option (List AV) :=
  if off + new.length ≤ cs.length then some (cs.take off ++ (new ++ cs.drop (off + new.length))) else none

def knownQ (P : Program) (t : TypeId) : Bool := (P.underlying t).isSome
def evLoad (cx : Ctx) (t : TypeId) (a : AV) (fs : FS) : Option OR :=
  if knownQ cx.P t = false then none else
  match a with
  | .ref cs => match rdc (aggQ cx.P t) (cx.P.cellsOf t) cs with
    | some v => some (.val v fs.b fs.S .non) | none => none
  | .loc dep d ver off =>
    if dep = cx.dep ∧ (fs.b d).1 = ver ∧ ver ≠ 0 then
      match rdc (aggQ cx.P t) (cx.P.cellsOf t) ((fs.b d).2.drop off) with
      | some v => some (.val v fs.b fs.S (.rl d)) | none => none
    else none
  | .ptr id off => match fs.S.H[id]? with
    | some bx => match rdc (aggQ cx.P t) (cx.P.cellsOf t) (bx.cs.drop off) with
      | some v => some (.val v fs.b fs.S .rh) | none => none
    | none => none
  | _ => none

mutual
/-- no address of a local box inside -/
def AV.sealed : AV → Bool
  | .loc .. => false
  | .agg cs => AV.sealedL cs | .tup cs => AV.sealedL cs | .slice cs _ => AV.sealedL cs | .ref cs => AV.sealedL cs
  | .fn _ a b => AV.sealedL a && AV.sealedL b
  | .iface _ v => v.sealed
  | _ => true
def AV.sealedL : List AV → Bool
  | [] => true
  | a :: l => a.sealed && AV.sealedL l
end

def evStore (cx : Ctx) (t : TypeId) (a v : AV) (fs : FS) : Option OR :=
  match v.cells? with
  | none => none
  | some new =>
    if new.length = cx.P.cellsOf t ∧ (cx.P.info? t).isSome then
      match a with
      | .loc dep d ver off =>
        if dep = cx.dep ∧ (fs.b d).1 = ver ∧ ver ≠ 0 then
          match wrc off new (fs.b d).2 with
          | some cs => some (.val .undef (upd d (ver, cs) fs.b) fs.S (.wl d)) | none => none
        else none
      | .ptr id off => match fs.S.H[id]? with
        | some bx => match wrc off new bx.cs with
          | some cs => if AV.sealedL new then some (.val .undef fs.b { fs.S with H := fs.S.H.set id ⟨bx.ty, cs⟩ } .wh) else none
          | none => none
        | none => none
      | _ => none
    else none

/-- a new box of these cells: local to the frame, or (if it is said to escape) outside -/
def evBox (cx : Ctx) (i : Nat) (dst : Option Tmp) (ty : TypeId) (cs : List AV) (fs : FS) : Option OR :=
  match dst with
  | none => none
  | some d =>
    if cx.esc d then (if AV.sealedL cs then some (.val (.ptr fs.S.H.length 0) fs.b { fs.S with H := fs.S.H ++ [⟨ty, cs⟩] } .wh) else none)
    else some (.val (.loc cx.dep d (fs.c + i + 1) 0) (upd d (fs.c + i + 1, cs) fs.b) fs.S (.wl d))

/-! ### plain operations -/
def evBin (bq : Bool) (op : BinOp) (x y : AV) : Option AV :=
  match x, y with
  | .int k a, .int k' b =>
    match op with
    | .shl => if 0 ≤ b then some (.int k (k.wrap (a * 2 ^ (min b.toNat k.bits)))) else none
    | .shr => if 0 ≤ b then some (.int k (a.fdiv (2 ^ (min b.toNat k.bits)))) else none
    | _ => if k = k' then
      match op with
      | .add => some (.int k (k.wrap (a + b))) | .sub => some (.int k (k.wrap (a - b))) | .mul => some (.int k (k.wrap (a * b)))
      | .quo => if b = 0 then none else some (.int k (k.wrap (a.tdiv b)))
      | .rem => if b = 0 then none else some (.int k (a.tmod b))
      | .and => some (.int k (k.wrap (BitVec.ofInt k.bits a &&& BitVec.ofInt k.bits b).toNat))
      | .or => some (.int k (k.wrap (BitVec.ofInt k.bits a ||| BitVec.ofInt k.bits b).toNat))
      | .xor => some (.int k (k.wrap (BitVec.ofInt k.bits a ^^^ BitVec.ofInt k.bits b).toNat))
      | .eql => some (.bool (a == b)) | .neq => some (.bool (a != b))
      | .lss => some (.bool (decide (a < b))) | .leq => some (.bool (decide (a ≤ b)))
      | .gtr => some (.bool (decide (a > b))) | .geq => some (.bool (decide (a ≥ b)))
      | _ => none
      else none
  | .bool a, .bool b =>
    if bq then
      match op with
      | .eql => some (.bool (a == b)) | .neq => some (.bool (!(a == b))) | _ => none
    else none
  | .str a, .str b =>
    match op with
    | .add => if a.length + b.length ≤ 4611686018427387904 then some (.str (a ++ b)) else none
    | .eql => some (.bool (a == b)) | .neq => some (.bool (!(a == b)))
    | .lss => some (.bool (Op.bytesLess a b)) | .leq => some (.bool (Op.bytesLess a b || a == b))
    | .gtr => some (.bool (!(Op.bytesLess a b || a == b))) | .geq => some (.bool (!Op.bytesLess a b))
    | _ => none
  | _, _ => none
def boolQ (P : Program) (t : TypeId) : Bool :=
  match P.underlying t with
  | some .bool => true | _ => false
def evUn (op : UnOp) (x : AV) : Option AV :=
  match op, x with
  | .neg, .int k n => some (.int k (k.wrap (0 - n)))
  | .not, .bool b => some (.bool (!b))
  | _, _ => none
def bytesOf : List AV → Option (List UInt8)
  | [] => some []
  | .int .u8 n :: l => match bytesOf l with
    | some r => some (UInt8.ofNat n.toNat :: r) | none => none
  | _ :: _ => none
def evConv (P : Program) (src dst : TypeId) (x : AV) : Option AV :=
  match x with
  | .int _ n => match intQ P src, intQ P dst with
    | some _, some k => some (.int k (k.wrap n)) | _, _ => none
  | .str s => if strQ P src = true ∧ strQ P dst = true then some (.str s) else none
  | .slice es _ => match sliceQ P src with
    | some e => if intQ P e = some .u8 ∧ strQ P dst = true then (match bytesOf es with | some b => some (.str b) | none => none) else none
    | none => none
  | _ => none

/-- each fills so many cells -/
def sizesOk (n : Nat) : List AV → Bool
  | [] => true
  | a :: l => (match a.cells? with | some cs => cs.length == n | none => false) && sizesOk n l
def nth (l : List AV) (i : Int) : Option AV := if 0 ≤ i then l[i.toNat]? else none
def evField (P : Program) (t : TypeId) (x : AV) (f : Nat) : Option AV :=
  match fieldQ P t f, x with
  | some (off, sz, agg), .agg cs => rdc agg sz (cs.drop off)
  | _, _ => none
def evFieldAddr (P : Program) (t : TypeId) (x : AV) (f : Nat) : Option AV :=
  match fieldQ P t f with
  | some (off, _, _) => match x with
    | .ref cs => some (.ref (cs.drop off))
    | .loc dep d ver o => some (.loc dep d ver (o + off))
    | .ptr id o => some (.ptr id (o + off))
    | _ => none
  | none => none
def evIndex (P : Program) (t : TypeId) (x i : AV) : Option AV :=
  match i with
  | .int _ n => match x with
    | .str s => if strQ P t = true ∧ 0 ≤ n then (match s[n.toNat]? with | some b => some (.int .u8 b.toNat) | none => none) else none
    | .agg cs => match arrQ P t with
      | some (len, e) => if 0 ≤ n ∧ n < len ∧ (P.underlying e).isSome then rdc (aggQ P e) (P.cellsOf e) (cs.drop (n.toNat * P.cellsOf e)) else none
      | none => none
    | _ => none
  | _ => none
def evIndexAddr (P : Program) (t : TypeId) (x i : AV) : Option AV :=
  match i with
  | .int _ n => match x with
    | .slice es _ => match sliceQ P t with
      | some e => match nth es n with
        | some v => match v.cells? with
          | some cs => if cs.length = P.cellsOf e ∧ (P.info? e).isSome then some (.ref cs) else none
          | none => none
        | none => none
      | none => none
    | _ => match arrQ P t with
      | some (len, e) =>
        if 0 ≤ n ∧ n < len ∧ (P.info? e).isSome then
          match x with
          | .ref cs => some (.ref (cs.drop (n.toNat * P.cellsOf e)))
          | .loc dep d ver o => some (.loc dep d ver (o + n.toNat * P.cellsOf e))
          | .ptr id o => some (.ptr id (o + n.toNat * P.cellsOf e))
          | _ => none
        else none
      | none => none
  | _ => none
def evSlice (P : Program) (t : TypeId) (x : AV) (lo hi : Option AV) : Option AV :=
  match x with
  | .str s =>
    if strQ P t = true then
      match (match hi with | none => some (.int .i64 s.length) | some h => some h : Option AV), (match lo with | none => some (.int .i64 0) | some l => some l : Option AV) with
      | some (.int _ h), some (.int _ l) => if 0 ≤ h ∧ h ≤ s.length ∧ 0 ≤ l ∧ l ≤ h then some (.str ((s.take h.toNat).drop l.toNat)) else none
      | _, _ => none
    else none
  | .slice es tok =>
    match sliceQ P t with
    | none => none
    | some e =>
      if (P.info? e).isSome ∧ sizesOk (P.cellsOf e) es = true then
        match (match hi with | none => some (.int .i64 es.length) | some h => some h : Option AV), (match lo with | none => some (.int .i64 0) | some l => some l : Option AV) with
        | some (.int _ h), some (.int _ l) =>
          if 0 ≤ h ∧ h ≤ es.length ∧ 0 ≤ l ∧ l ≤ h then
            some (.slice ((es.take h.toNat).drop l.toNat) (match hi, tok with | none, .clip => .clip | _, _ => .non))
          else none
        | _, _ => none
      else none
  | _ => none

/-- the parts of a struct or an array, laid over its zero -/
def fillA (place : Nat → Option (Nat × Nat)) : List (Nat × AV) → List AV → Option (List AV)
  | [], cs => some cs
  | (i, v) :: r, cs => match place i, v.cells? with
    | some (off, sz), some new => if new.length = sz then (match wrc off new cs with | some cs' => fillA place r cs' | none => none) else none
    | _, _ => none
def placeQ (P : Program) (t : TypeId) (i : Nat) : Option (Nat × Nat) :=
  match P.underlying t with
  | some (.struct fs) => match fs[i]? with
    | some f => some (f.offset, P.cellsOf f.type) | none => none
  | some (.array _ e) => some (i * P.cellsOf e, P.cellsOf e)
  | _ => none
/-- every field's type is known -/
def partsQ (P : Program) (t : TypeId) : Bool :=
  match P.underlying t with
  | some (.struct fs) => fs.all fun f => (P.info? f.type).isSome
  | some (.array _ e) => (P.info? e).isSome
  | _ => false
def evBuild (P : Program) (t : TypeId) (parts : List (Nat × AV)) : Option AV :=
  if partsQ P t then
    match zeroQ P t with
    | some z => match fillA (placeQ P t) parts z with
      | some cs => some (.agg cs) | none => none
    | none => none
  else none
/-- slice literals whose elements are all given, in order -/
def evElems (agg : Bool) (sz : Nat) : Nat → List (Nat × AV) → Option (List AV)
  | _, [] => some []
  | k, (i, v) :: r =>
    match v.cells? with
    | some cs => if i = k ∧ cs.length = sz ∧ (agg = true ∨ sz = 1) then
        (match evElems agg sz (k + 1) r with | some es => some (v :: es) | none => none) else none
    | none => none
def evBuildSlice (P : Program) (t : TypeId) (len : Nat) (parts : List (Nat × AV)) : Option AV :=
  match sliceQ P t with
  | some e => match zeroQ P e with
    | some z =>
      if len * P.cellsOf e ≤ 16777216 ∧ parts.length = len ∧ z.length = P.cellsOf e ∧ z.length ≠ 0 then
        match evElems (aggQ P e) (P.cellsOf e) 0 parts with
        | some es => some (.slice es .clip) | none => none
      else none
    | none => none
  | none => none

/-! ### builtins -/
def evLen (P : Program) (t : TypeId) (x : AV) : Option AV :=
  match x with
  | .str s => if strQ P t then some (.int .i64 s.length) else none
  | .slice es _ => match sliceQ P t with
    | some _ => some (.int .i64 es.length) | none => none
  | _ => none
def elemsOf (x : AV) : Option (List AV) :=
  match x with
  | .slice es _ => some es
  | .str s => some (s.map fun b => .int .u8 b.toNat)
  | _ => none
def evAppend (P : Program) (ts : List TypeId) (s x : AV) (S : St) : Option (AV × St) :=
  match ts with
  | ty :: tx :: _ =>
    match sliceQ P ty, (match P.underlying tx with | some (.int _) => none | none => none | some _ => some () : Option Unit) with
    | some e, some () =>
      match s, elemsOf x with
      | .slice es tok, some xs =>
        match zeroQ P e with
        | none => none
        | some z =>
          if z.length = P.cellsOf e ∧ z.length ≠ 0 ∧ P.bytesOf e ≠ 0 ∧ (es.length + xs.length) * P.bytesOf e ≤ 70368744177664 ∧ (es.length + xs.length) * P.cellsOf e ≤ 70368744177664 ∧
             sizesOk (P.cellsOf e) es = true ∧ sizesOk (P.cellsOf e) xs = true then
            if xs = [] then some (.slice es tok, S)
            else match tok with
              | .clip => some (.slice (es ++ xs) (.own S.T.length ((es.length + xs.length) * P.cellsOf e)), { S with T := S.T ++ [(es.length + xs.length) * P.cellsOf e] })
              | .own k pos => if S.T[k]? = some pos then some (.slice (es ++ xs) (.own k (pos + xs.length * P.cellsOf e)), { S with T := S.T.set k (pos + xs.length * P.cellsOf e) }) else none
              | .non => none
          else none
      | _, _ => none
    | _, _ => none
  | _ => none

def goOp (S : St) (b : Nat → Nat × List AV) : Option AV → Option OR
  | some v => some (.val v b S .non)
  | none => none

def rhoL (t : Nat → AV) (l : Array Operand) : List AV := l.toList.map (rho t)

def evMin2 : AV → AV → Option AV
  | .int k x, .int k' y => if k = k' then some (.int k (if y < x then y else x)) else none
  | _, _ => none
def evMax2 : AV → AV → Option AV
  | .int k x, .int k' y => if k = k' then some (.int k (if y > x then y else x)) else none
  | _, _ => none

def evBuiltin (cx : Ctx) (bi : Builtin) (ts : List TypeId) (args : List AV) (fs : FS) : Option OR :=
  match bi with
  | .len => match ts, args with
    | t :: _, x :: _ => goOp fs.S fs.b (evLen cx.P t x) | _, _ => none
  | .min => match args with
    | [x, y] => goOp fs.S fs.b (evMin2 x y) | _ => none
  | .max => match args with
    | [x, y] => goOp fs.S fs.b (evMax2 x y) | _ => none
  | .append => match args with
    | [s, x] => match evAppend cx.P ts s x fs.S with
      | some (v, S') => some (.val v fs.b S' .wh) | none => none
    | _ => none
  | _ => none

def evCallee (call : Cal) (fs : FS) (f : AV) (args : List AV) : Option OR :=
  match f with
  | .fn g first cap => match call g (first ++ (args ++ cap)) fs.S with
    | some (.ret v, S') => some (.val v fs.b S' .wh)
    | some (.pan v, S') => some (.pan v S')
    | none => none
  | _ => none

def evOp (cx : Ctx) (call : Cal) (i : Nat) (o : Oper) (fs : FS) : Option OR :=
  match o.op with
  | .move x => some (.val (rho fs.t x) fs.b fs.S .non)
  | .assign x => some (.val (rho fs.t x) fs.b fs.S .non)
  | .pick c a b => match rho fs.t c with
    | .bool q => some (.val (if q then rho fs.t a else rho fs.t b) fs.b fs.S .non)
    | _ => none
  | .alloc ty => match zeroQ cx.P ty with
    | some z => evBox cx i o.dst ty z fs | none => none
  | .box ty x => match (rho fs.t x).cells? with
    | some cs => evBox cx i o.dst ty cs fs | none => none
  | .build t parts => goOp fs.S fs.b (evBuild cx.P t (parts.toList.map fun p => (p.1, rho fs.t p.2)))
  | .buildSlice t len parts => goOp fs.S fs.b (evBuildSlice cx.P t len (parts.toList.map fun p => (p.1, rho fs.t p.2)))
  | .load t a => evLoad cx t (rho fs.t a) fs
  | .store t a x => evStore cx t (rho fs.t a) (rho fs.t x) fs
  | .nilCheck x => match rho fs.t x with
    | .ref cs => some (.val (.ref cs) fs.b fs.S .non)
    | .loc a b c d => some (.val (.loc a b c d) fs.b fs.S .non)
    | .ptr a b => some (.val (.ptr a b) fs.b fs.S .non)
    | _ => none
  | .binOp op xt x y _ => goOp fs.S fs.b (evBin (boolQ cx.P xt) op (rho fs.t x) (rho fs.t y))
  | .unOp op _ x => goOp fs.S fs.b (evUn op (rho fs.t x))
  | .convert s d x => goOp fs.S fs.b (evConv cx.P s d (rho fs.t x))
  | .makeInterface t x => if concQ cx.P t then some (.val (.iface t (rho fs.t x)) fs.b fs.S .non) else none
  | .makeFunc (.func f) first cap => some (.val (.fn f (rhoL fs.t first) (rhoL fs.t cap)) fs.b fs.S .non)
  | .slice t x lo hi none => goOp fs.S fs.b (evSlice cx.P t (rho fs.t x) (lo.map (rho fs.t)) (hi.map (rho fs.t)))
  | .fieldAddr s x f => goOp fs.S fs.b (evFieldAddr cx.P s (rho fs.t x) f)
  | .field t x f => goOp fs.S fs.b (evField cx.P t (rho fs.t x) f)
  | .indexAddr t x ix => goOp fs.S fs.b (evIndexAddr cx.P t (rho fs.t x) (rho fs.t ix))
  | .index t x ix => goOp fs.S fs.b (evIndex cx.P t (rho fs.t x) (rho fs.t ix))
  | .extract x k => match rho fs.t x with
    | .tup vs => goOp fs.S fs.b vs[k]? | _ => none
  | .call ⟨.value f, args, _⟩ => evCallee call fs (rho fs.t f) (rhoL fs.t args)
  | .call ⟨.builtin bi, args, ts⟩ => evBuiltin cx bi ts.toList (rhoL fs.t args) fs
  | .panic x => match rho fs.t x with
    | .iface t v => some (.pan (.iface t v) fs.S) | _ => none
  | _ => none

/-! ### a region -/
def putA (t : Nat → AV) (dst : Option Tmp) (v : AV) : Nat → AV :=
  match dst with
  | some d => upd d v t | none => t

/-- is it to be done? (Its guard's operation must have left a bool, or nothing.) -/
def wantedA (gd : Option (Nat × Bool)) (ops : Array Oper) (t : Nat → AV) : Option Bool :=
  match gd with
  | none => some true
  | some (j, want) => match (ops[j]?).bind (·.dst) with
    | some d => match t d with
      | .bool q => some (q == want)
      | .undef => some false
      | _ => none
    | none => none

inductive OutS where
  | ok (fs : FS) (fp : FP)
  | pan (v : AV) (fs : FS)

def stepA (cx : Ctx) (call : Cal) (ops : Array Oper) (i : Nat) (o : Oper) (fs : FS) : Option OutS :=
  match wantedA o.guard ops fs.t with
  | some true => match evOp cx call i o fs with
    | some (.val v b S fp) => some (.ok ⟨putA fs.t o.dst v, b, fs.c, S⟩ fp)
    | some (.pan v S) => some (.pan v ⟨fs.t, fs.b, fs.c, S⟩)
    | none => none
  | some false => some (.ok ⟨putA fs.t o.dst .undef, fs.b, fs.c, fs.S⟩ .non)
  | none => none

/-- in any order -/
def seqA (cx : Ctx) (call : Cal) (ops : Array Oper) : List Nat → FS → Option OutS
  | [], fs => some (.ok fs .non)
  | i :: l, fs => match ops[i]? with
    | none => none
    | some o => match stepA cx call ops i o fs with
      | some (.ok fs' _) => seqA cx call ops l fs'
      | r => r
/-- in the order of the text -/
def lexA (cx : Ctx) (call : Cal) (ops : Array Oper) : Nat → List Oper → FS → Option OutS
  | _, [], fs => some (.ok fs .non)
  | i, o :: l, fs => match stepA cx call ops i o fs with
    | some (.ok fs' _) => lexA cx call ops (i + 1) l fs'
    | r => r
/-- likewise, with what each has touched -/
def lexF (cx : Ctx) (call : Cal) (ops : Array Oper) : Nat → List Oper → FS → List FP → Option (FS × List FP)
  | _, [], fs, fps => some (fs, fps)
  | i, o :: l, fs, fps => match stepA cx call ops i o fs with
    | some (.ok fs' fp) => lexF cx call ops (i + 1) l fs' (fps ++ [fp])
    | _ => none

def FP.clash : FP → FP → Bool
  | .rl d, .wl e => d == e | .wl d, .rl e => d == e | .wl d, .wl e => d == e
  | .rh, .wh => true | .wh, .rh => true | .wh, .wh => true
  | _, _ => false
def noClash (fps : List FP) : List (Nat × Nat) → Bool
  | [] => true
  | (i, j) :: l => (match fps[i]?, fps[j]? with | some a, some b => !FP.clash a b | _, _ => false) && noClash fps l

/-! ### code -/
inductive Out where
  | norm | exit (id : Nat) | ret | pan (v : AV)

def iter : Nat → (FS → Option (Out × FS)) → FS → Option (Out × FS)
  | 0, _, _ => none
  | k + 1, body, fs => match body fs with
    | some (.norm, fs') => iter k body fs'
    | r => r

def afterRegion (n : Nat) : Option OutS → Option (Out × FS)
  | some (.ok fs _) => some (.norm, ⟨fs.t, fs.b, fs.c + n, fs.S⟩)
  | some (.pan v fs) => some (.pan v, fs)
  | none => none
def afterDraw (n : Nat) (ps : List (Nat × Nat)) : Option (FS × List FP) → Option (Out × FS)
  | some (fs, fps) => if noClash fps ps then some (.norm, ⟨fs.t, fs.b, fs.c + n, fs.S⟩) else none
  | none => none

def evCode (cx : Ctx) (call : Cal) (ps : Nat → List (Nat × Nat)) (L : Nat) : Code → FS → Option (Out × FS)
  | .skip, fs => some (.norm, fs)
  | .region _ ops false, fs => afterRegion ops.size (lexA cx call ops 0 ops.toList fs)
  | .region id ops true, fs => afterDraw ops.size (ps id) (lexF cx call ops 0 ops.toList fs [])
  | .seq x y, fs => match evCode cx call ps L x fs with
    | some (.norm, fs') => evCode cx call ps L y fs'
    | r => r
  | .cond c x y, fs => match rho fs.t c with
    | .bool true => evCode cx call ps L x fs
    | .bool false => evCode cx call ps L y fs
    | _ => none
  | .block id c, fs => match evCode cx call ps L c fs with
    | some (.exit k, fs') => if k = id then some (.norm, fs') else some (.exit k, fs')
    | r => r
  | .loop c, fs => iter L (evCode cx call ps L c) fs
  | .exit id, fs => some (.exit id, fs)
  | .ret, fs => some (.ret, fs)
  | _, _ => none

/-! ### calls -/
mutual
def avEq : AV → AV → Bool
  | .junk, .junk => true | .undef, .undef => true | .nilp, .nilp => true | .nilif, .nilif => true
  | .bool a, .bool b => a == b
  | .int k a, .int k' b => decide (k = k') && a == b
  | .str a, .str b => a == b
  | .agg a, .agg b => avEqL a b | .tup a, .tup b => avEqL a b | .ref a, .ref b => avEqL a b
  | .slice a .non, .slice b .non => avEqL a b | .slice a .clip, .slice b .clip => avEqL a b
  | .slice a (.own t p), .slice b (.own u q) => t == u && p == q && avEqL a b
  | .loc a b c d, .loc a' b' c' d' => a == a' && b == b' && c == c' && d == d'
  | .ptr a b, .ptr a' b' => a == a' && b == b'
  | .fn f a b, .fn f' a' b' => f == f' && avEqL a a' && avEqL b b'
  | .iface t a, .iface t' a' => t == t' && avEq a a'
  | _, _ => false
def avEqL : List AV → List AV → Bool
  | [], [] => true
  | a :: l, b :: m => avEq a b && avEqL l m
  | _, _ => false
end
def boxEqL : List HBox → List HBox → Bool
  | [], [] => true
  | a :: l, b :: m => a.ty == b.ty && avEqL a.cs b.cs && boxEqL l m
  | _, _ => false

mutual
/-- tokens from t0 on forgotten -/
def AV.strip (t0 : Nat) : AV → AV
  | .agg cs => .agg (AV.stripL t0 cs) | .tup cs => .tup (AV.stripL t0 cs) | .ref cs => .ref (AV.stripL t0 cs)
  | .slice es (.own t p) => if t < t0 then .slice (AV.stripL t0 es) (.own t p) else .slice (AV.stripL t0 es) .non
  | .slice es .non => .slice (AV.stripL t0 es) .non
  | .slice es .clip => .slice (AV.stripL t0 es) .clip
  | .fn f a b => .fn f (AV.stripL t0 a) (AV.stripL t0 b)
  | .iface t v => .iface t (v.strip t0)
  | .junk => .junk | .undef => .undef | .bool b => .bool b | .int k n => .int k n | .str s => .str s
  | .nilp => .nilp | .nilif => .nilif | .loc a b c d => .loc a b c d | .ptr a b => .ptr a b
def AV.stripL (t0 : Nat) : List AV → List AV
  | [] => []
  | a :: l => a.strip t0 :: AV.stripL t0 l
end
mutual
/-- no box from h0 on, no token from t0 on -/
def AV.low (h0 t0 : Nat) : AV → Bool
  | .ptr id _ => decide (id < h0)
  | .slice es (.own t _) => decide (t < t0) && AV.lowL h0 t0 es
  | .slice es _ => AV.lowL h0 t0 es
  | .agg cs => AV.lowL h0 t0 cs | .tup cs => AV.lowL h0 t0 cs | .ref cs => AV.lowL h0 t0 cs
  | .fn _ a b => AV.lowL h0 t0 a && AV.lowL h0 t0 b
  | .iface _ v => v.low h0 t0
  | _ => true
def AV.lowL (h0 t0 : Nat) : List AV → Bool
  | [] => true
  | a :: l => a.low h0 t0 && AV.lowL h0 t0 l
end

/-- what the caller sees: where nothing outside has turned, the world is as it was -/
def finish (S : St) (v : AV) (S' : St) : Option (AV × St) :=
  if v.sealed then
    if boxEqL (S'.H.take S.H.length) S.H && S'.T.take S.T.length == S.T && (v.strip S.T.length).low S.H.length S.T.length then some (v.strip S.T.length, S)
    else some (v, S')
  else none

def resA (P : Program) (cx : Ctx) (fs : FS) : List ResultVar → Option (List AV)
  | [] => some []
  | .tmp t :: l => match resA P cx fs l with
    | some r => some (fs.t t :: r) | none => none
  | .cell a ty :: l => match evLoad cx ty (fs.t a) fs, resA P cx fs l with
    | some (.val v _ _ _), some r => some (v :: r) | _, _ => none
def oneOf : List AV → AV
  | [v] => v
  | vs => .tup vs

def finRet (S : St) (v : AV) (S' : St) : Option (Res × St) :=
  match finish S v S' with
  | some (v, S'') => some (.ret v, S'') | none => none
def finPan (S : St) (v : AV) (S' : St) : Option (Res × St) :=
  match finish S v S' with
  | some (v, S'') => some (.pan v, S'') | none => none
def fromBody (P : Program) (cx : Ctx) (S : St) (rs : List ResultVar) : Option (Out × FS) → Option (Res × St)
  | some (.norm, fs) => match resA P cx fs rs with
    | some vs => finRet S (oneOf vs) fs.S | none => none
  | some (.ret, fs) => match resA P cx fs rs with
    | some vs => finRet S (oneOf vs) fs.S | none => none
  | some (.pan v, fs) => finPan S v fs.S
  | _ => none

/-- which functions are followed, which boxes lie outside, which operations of a region that draws are in no order; and functions that are proved by hand -/
structure Env where
  ok : FuncId → Bool
  esc : FuncId → Tmp → Bool
  ps : FuncId → Nat → List (Nat × Nat)
  ext : FuncId → List AV → St → Option (Res × St)

def argsA (args : List AV) : Nat → AV := fun x => match args[x]? with | some a => a | none => .undef

def evFunc (P : Program) (E : Env) (call : Cal) (n : Nat) (f : FuncId) (args : List AV) (S : St) : Option (Res × St) :=
  match P.funcs[f]? with
  | none => none
  | some fn => match fn.body with
    | none => none
    | some c =>
      if args.length ≤ fn.ntmps ∧ (fn.name == "runtime.NumGoroutine") = false then
        fromBody P ⟨P, E.esc f, n⟩ S fn.results.toList (evCode ⟨P, E.esc f, n⟩ call (E.ps f) n c ⟨argsA args, fun _ => (0, []), 0, S⟩)
      else none

def ev (P : Program) (E : Env) : Nat → Cal
  | 0, _, _, _ => none
  | n + 1, f, args, S => if E.ok f then evFunc P E (ev P E n) n f args S else E.ext f args S
end Go.Proofs.Ytemggoaefohliaa.AE
