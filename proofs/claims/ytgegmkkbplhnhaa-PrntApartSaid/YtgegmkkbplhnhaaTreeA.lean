/- The tree machine: values, states and single operations, and that each is an operation of the model. No conditions. -/
import Derived.WalkKit
import Derived.Orders
import Derived.Lib.ConvBytes
import Derived.Laws.BytesString
import Derived.ChangeKeysEq
import Derived.Laws.StructEq
import Derived.Laws.Small
section
set_option linter.unusedVariables false
namespace Go.Tm
open Go

/-- What lies in a slice's cells: a flat value, or a slice. -/
inductive D where
  | flat (v : Value)
  | slc (nl : Bool) (n : Nat) (cs : List D)
  deriving Inhabited

/-- What is known of a slice's capacity: nothing; it is the length; it may be appended to (by this token). -/
inductive Ow where
  | ro
  | ex
  | lit
  | tok (t : Nat)
  deriving Inhabited

inductive T where
  | d (v : Value)
  | sl (nl : Bool) (n : Nat) (cs : List D) (o : Ow)
  | agg (cs : List T)
  | tup (cs : List T)
  | ptr (id off : Nat)
  | el (cs : List D) (i : Nat)
  | loc (id off n cap : Nat)
  | mapr (id : Nat)
  | clo (f : Nat) (first cap : List T)
  deriving Inhabited

inductive Box where
  | cells (cs : List T)
  | map (es : List (Value × T))
  | dead
  deriving Inhabited

structure St where
  H : List Box
  E : List Nat
  deriving Inhabited

/-- A value without an address, of one cell. -/
def flatV : Value → Bool
  | .bool _ | .int _ _ | .string _ | .nilIface | .nilFunc | .pointer none | .map none => true
  | .iface _ v => flatV v
  | _ => false

def nilS : T := .sl true 0 [] .ex

/-- One cell's value as a tree. -/
def T.of1 (v : Value) : Option T :=
  match v with
  | .slice none 0 0 => some nilS
  | v => if flatV v then some (.d v) else none

def T.ofL : List Value → Option (List T)
  | [] => some []
  | v :: vs => match T.of1 v, T.ofL vs with
    | some t, some ts => some (t :: ts)
    | _, _ => none

def T.ofVal : Value → Option T
  | .agg cs => (T.ofL cs.toList).map .agg
  | .tuple cs => (T.ofL cs.toList).map .tup
  | v => T.of1 v

/-- One cell's value back. -/
def T.val1 : T → Option Value
  | .d v => some v
  | .sl true _ _ _ => some (.slice none 0 0)
  | _ => none

def T.valL : List T → Option (List Value)
  | [] => some []
  | t :: ts => match T.val1 t, T.valL ts with
    | some v, some vs => some (v :: vs)
    | _, _ => none

def T.val : T → Option Value
  | .agg cs => (T.valL cs).map fun vs => .agg vs.toArray
  | t => T.val1 t

def D.isFlat : D → Bool
  | .flat _ => true
  | _ => false

def D.toT : D → T
  | .flat v => .d v
  | .slc nl n cs => .sl nl n cs .ro

def T.toD : T → Option D
  | .d v => some (.flat v)
  | .sl nl n cs _ => some (.slc nl n cs)
  | _ => none

def T.toDs : List T → Option (List D)
  | [] => some []
  | t :: ts => match T.toD t, T.toDs ts with
    | some x, some xs => some (x :: xs)
    | _, _ => none

def T.cells : T → List T
  | .agg cs => cs
  | t => [t]

/-- Of one cell. -/
def T.one : T → Bool
  | .agg _ | .tup _ | .el _ _ => false
  | _ => true

def ofCells (isAgg : Bool) (cs : List T) : Option T :=
  if isAgg then some (.agg cs) else match cs with
    | [t] => some t
    | _ => none

/-- A pieceL of a list, if it is all there. -/
def pieceL {α : Type} (cs : List α) (off n : Nat) : Option (List α) := if off + n ≤ cs.length then some ((cs.drop off).take n) else none
/-- A pieceL put into a list, if it goes in. -/
def putAt {α : Type} (cs : List α) (off : Nat) (xs : List α) : Option (List α) :=
  if off + xs.length ≤ cs.length then some (cs.take off ++ xs ++ cs.drop (off + xs.length)) else none

structure TyI where
  size : Nat
  bytes : Nat
  desc : TypeDesc
  zero : Value
  deriving Inhabited

structure Cfg where
  P : Program
  ok : Nat → Bool
  pure : Nat → Bool
  thaw : Nat → Nat → Bool
  ice : Nat → Nat → Bool
  live : Nat → Nat → List Nat
  keep : Nat → Nat → List Nat
  frz : Nat → Nat → Option Nat
  prim : Nat → Option (List T → Option (T × St))

/-- A type, as the program has it. -/
def tyOf (P : Program) (t : Nat) : Option TyI :=
  match P.info? t, P.underlying t with
  | some i, some u => match i.zero with
    | some z => some ⟨i.size, i.bytes, u, z⟩
    | none => none
  | _, _ => none

def Cfg.ty (C : Cfg) (t : Nat) : Option TyI := tyOf C.P t
def Cfg.fn (C : Cfg) (f : Nat) : Option Func := if C.ok f then C.P.funcs[f]? else none

def tyD (C : Cfg) (t : Nat) : Option TypeDesc :=
  match C.ty t with
  | some i => some i.desc
  | none => none

def isAggD : TypeDesc → Bool
  | .struct _ | .array _ _ => true
  | _ => false

/-- A computation that asks for nothing but the program. -/
def evS {α : Type} (P : Program) : Sem α → Option α
  | .pure a => some a
  | .program k => evS P (k P)
  | _ => none

abbrev Fr := List (Nat × T)

def lookF : Fr → Nat → Option T
  | [], _ => none
  | (s, t) :: r, k => if s = k then some t else lookF r k

def putF (fr : Fr) (dst : Option Nat) (t : T) : Fr :=
  match dst with
  | none => fr
  | some d => (d, t) :: fr

def opd (fr : Fr) : Operand → Option T
  | .tmp t => lookF fr t
  | .const v => T.ofVal v
  | .global _ => none
  | .func f => some (.clo f [] [])

def opds (fr : Fr) : List Operand → Option (List T)
  | [] => some []
  | x :: xs => match opd fr x, opds fr xs with
    | some t, some ts => some (t :: ts)
    | _, _ => none

def opdV (fr : Fr) (x : Operand) : Option Value := (opd fr x).bind T.val

def intV : Option T → Option Int
  | some (.d (.int _ n)) => some n
  | _ => none

/-- The parts of a literal put into its cells. -/
def fillT (place : Nat → Option (Nat × Nat)) (cells : List T) : List (Nat × T) → Option (List T)
  | [] => some cells
  | (i, t) :: rest =>
    match place i with
    | none => none
    | some (off, size) =>
      if t.cells.length = size then
        match putAt cells off t.cells with
        | some cs => fillT place cs rest
        | none => none
      else none

def partsT (fr : Fr) : List (Nat × Operand) → Option (List (Nat × T))
  | [] => some []
  | (i, x) :: ps => match opd fr x, partsT fr ps with
    | some t, some ts => some ((i, t) :: ts)
    | _, _ => none

def placesOf (C : Cfg) : List Field → Option (List (Nat × Nat))
  | [] => some []
  | f :: fs => match C.ty f.type, placesOf C fs with
    | some i, some ps => some ((f.offset, i.size) :: ps)
    | _, _ => none

def bytesD (s : ByteArray) : List D := s.data.toList.map fun b => .flat (.int .u8 b.toNat)

def byteOfD : D → Option UInt8
  | .flat (.int .u8 n) => some (UInt8.ofNat n.toNat)
  | _ => none

def strOfD : List D → Option (List UInt8)
  | [] => some []
  | x :: xs => match byteOfD x, strOfD xs with
    | some b, some bs => some (b :: bs)
    | _, _ => none

def roomB : Nat := 140737488355328

/-- Bounds of a cut, all within the length. -/
def cutB (n : Nat) (lo hi mx : Option Int) : Option (Nat × Nat × Option Nat) :=
  match mx, hi with
  | none, hi => if 0 ≤ lo.getD 0 ∧ lo.getD 0 ≤ hi.getD n ∧ hi.getD n ≤ n then some ((lo.getD 0).toNat, (hi.getD n).toNat, none) else none
  | some m, some h => if 0 ≤ lo.getD 0 ∧ lo.getD 0 ≤ h ∧ h ≤ m ∧ m ≤ n then some ((lo.getD 0).toNat, h.toNat, some m.toNat) else none
  | some _, none => none

def intO (fr : Fr) : Option Operand → Option (Option Int)
  | none => some none
  | some x => match intV (opd fr x) with
    | some n => some (some n)
    | none => none

/-- What becomes of what is known of the capacity. -/
def cutO (o : Ow) (n l h : Nat) (m : Option Nat) : Ow :=
  match m with
  | some m => if m = h then .ex else .ro
  | none => match o with
    | .ex | .lit => if h = n then .ex else .ro
    | o => if l = 0 ∧ h = n then o else .ro

def findT (kind : TypeDesc) (k : Value) : List (Value × T) → Option (Option T)
  | [] => some none
  | (k', t) :: es =>
    match Instr.sameNow kind k k' with
    | some true => some (some t)
    | some false => findT kind k es
    | none => none

def setT (kind : TypeDesc) (k : Value) (t : T) : List (Value × T) → Option (List (Value × T))
  | [] => some [(k, t)]
  | (k', t') :: es =>
    match Instr.sameNow kind k k' with
    | some true => if Instr.sameBits 10000 k' k then some ((k, t) :: es) else none
    | some false => (setT kind k t es).map ((k', t') :: ·)
    | none => none

def keyD : TypeDesc → Bool
  | .int _ | .string | .bool => true
  | _ => false

def notIntD : TypeDesc → Bool
  | .int _ => false
  | _ => true

/-- What an append puts behind: how many elements, and their cells. -/
def tailOf (st : St) (size : Nat) : T → Option (Nat × List D)
  | .sl _ m ys _ => if ys.length = m * size then some (m, ys) else none
  | .d (.string s) => if size = 1 then some (s.size, bytesD s) else none
  | .loc id off m _ =>
    match st.H[id]? with
    | some (.cells cs) => match (pieceL cs off (m * size)).bind T.toDs with
      | some ys => some (m, ys)
      | none => none
    | _ => none
  | _ => none

/-- What a binary operation makes of slices, pointers and functions held against nil. -/
def nilEq (u : TypeDesc) (x y : T) : Option Bool :=
  match u, x, y with
  | .slice _, .sl true _ _ _, .sl nl _ _ _ => some nl
  | .slice _, .sl false _ _ _, .sl true _ _ _ => some false
  | .pointer _, .ptr _ _, .d (.pointer none) => some false
  | .pointer _, .d (.pointer none), .ptr _ _ => some false
  | .func .., .clo _ _ _, .d .nilFunc => some false
  | .map .., .mapr _, .d (.map none) => some false
  | _, _, _ => none

/-- An operation on flat values. -/
def flatOp (P : Program) (o : Oper) (vs : List Value) : Option Value :=
  match o.op, vs with
  | .binOp op t x y _, [a, b] => evS P (do eqGuard op t x y a b; binOp op t a b)
  | .unOp op _ _, [a] => evS P (Op.unary op a)
  | .convert s d _, [a] => evS P (convert s d a)
  | .field t _ f, [a] => evS P (Instr.field t a f)
  | .index t _ _, [a, i] => evS P (Instr.index t a i)
  | .makeInterface t _, [a] => evS P (Instr.makeInterface t a)
  | _, _ => none

def flat1 (C : Cfg) (o : Oper) (fr : Fr) (xs : List Operand) : Option T :=
  match (xs.mapM (opdV fr)) with
  | some vs => (flatOp C.P o vs).bind T.ofVal
  | none => none

def sliceOp (C : Cfg) (o : Oper) (fr : Fr) (t : TypeId) (x : Operand) (lo hi mx : Option Operand) : Option T :=
  match opd fr x, intO fr lo, intO fr hi, intO fr mx with
  | some (.d (.string s)), some lo, some hi, some none =>
    match tyD C t, cutB s.size lo hi none with
    | some .string, some (l, h, _) => some (.d (.string (s.extract l h)))
    | _, _ => none
  | some (.sl nl n cs ow), some lo, some hi, some mx =>
    match tyD C t, cutB n lo hi mx with
    | some (.slice e), some (l, h, m) =>
      match C.ty e with
      | some i => if cs.length = n * i.size then some (.sl nl (h - l) ((cs.drop (l * i.size)).take ((h - l) * i.size)) (cutO ow n l h m)) else none
      | none => none
    | _, _ => none
  | some (.loc id off n cap), some lo, some hi, some none =>
    match tyD C t, cutB n lo hi none with
    | some (.slice e), some (l, h, _) =>
      match C.ty e with
      | some i => if n ≤ cap then (if l < h then some (.loc id (off + l * i.size) (h - l) (n - l)) else some (.sl false 0 [] .ro)) else none
      | none => none
    | _, _ => none
  | _, _, _, _ => none

def indexOp (C : Cfg) (fr : Fr) (t : TypeId) (x ix : Operand) : Option T :=
  match tyD C t, opd fr x, intV (opd fr ix) with
  | some (.slice e), some (.sl false n cs _), some i =>
    match C.ty e with
    | some ti => if 0 ≤ i ∧ i < n then some (.el cs (i.toNat * ti.size)) else none
    | none => none
  | some (.slice e), some (.loc id off n _), some i =>
    match C.ty e with
    | some ti => if 0 ≤ i ∧ i < n then some (.ptr id (off + i.toNat * ti.size)) else none
    | none => none
  | some (.array n e), some (.ptr id off), some i =>
    match C.ty e with
    | some ti => if 0 ≤ i ∧ i < n then some (.ptr id (off + i.toNat * ti.size)) else none
    | none => none
  | _, _, _ => none

def fieldA (C : Cfg) (fr : Fr) (s : TypeId) (x : Operand) (f : Nat) : Option T :=
  match tyD C s with
  | some (.struct fields) =>
    match fields[f]? with
    | some fd =>
      match C.ty fd.type with
      | some i => if i.size = 0 then none else
        match opd fr x with
        | some (.ptr id off) => some (.ptr id (off + fd.offset))
        | some (.el cs j) => some (.el cs (j + fd.offset))
        | _ => none
      | none => none
    | none => none
  | _ => none

def loadOp (C : Cfg) (fr : Fr) (H : List Box) (t : TypeId) (a : Operand) : Option T :=
  match C.ty t, opd fr a with
  | some i, some (.ptr id off) =>
    match H[id]? with
    | some (.cells cs) => (pieceL cs off i.size).bind (ofCells (isAggD i.desc))
    | _ => none
  | some i, some (.el cs j) => (pieceL cs j i.size).bind fun ds => ofCells (isAggD i.desc) (ds.map D.toT)
  | _, _ => none

def storeOp (C : Cfg) (fr : Fr) (H : List Box) (t : TypeId) (a x : Operand) : Option (List Box) :=
  match C.ty t, opd fr a, opd fr x with
  | some i, some (.ptr id off), some v =>
    match H[id]? with
    | some (.cells cs) =>
      if v.cells.length = i.size ∧ v.cells.all T.one = true then
        (putAt cs off v.cells).map fun cs' => H.set id (.cells cs')
      else none
    | _ => none
  | _, _, _ => none

def buildOp (C : Cfg) (fr : Fr) (t : TypeId) (ps : List (Nat × Operand)) : Option T :=
  match C.ty t, partsT fr ps with
  | some i, some ts =>
    match T.ofVal i.zero with
    | some (.agg zs) =>
      match i.desc with
      | .struct fields => match placesOf C fields.toList with
        | some pl => (fillT (pl[·]?) zs ts).map .agg
        | none => none
      | .array _ e => match C.ty e with
        | some ei => (fillT (fun k => some (k * ei.size, ei.size)) zs ts).map .agg
        | none => none
      | _ => none
    | _ => none
  | _, _ => none

def repeatL {α : Type} (zs : List α) : Nat → List α
  | 0 => []
  | n + 1 => zs ++ repeatL zs n

def buildSliceOp (C : Cfg) (fr : Fr) (t : TypeId) (len : Nat) (ps : List (Nat × Operand)) : Option T :=
  match tyD C t, partsT fr ps with
  | some (.slice e), some ts =>
    match C.ty e with
    | some i => if len * i.size ≤ 16777216 then
        match (T.ofVal i.zero).map T.cells with
        | some zs => if zs.length = i.size then
            match (fillT (fun k => some (k * i.size, i.size)) (repeatL zs len) ts).bind T.toDs with
            | some ds => some (.sl false len ds .lit)
            | none => none
          else none
        | none => none
      else none
    | none => none
  | _, _ => none

/-- What makes a box: the box, and how it is named. -/
def allocT (C : Cfg) (o : Oper) (fr : Fr) : Option (Box × (Nat → T)) :=
  match o.op with
  | .alloc e => match C.ty e with
    | some i => match (T.ofVal i.zero).map T.cells with
      | some zs => if zs.all T.one then some (.cells zs, fun id => .ptr id 0) else none
      | none => none
    | none => none
  | .box _ x => match opd fr x with
    | some t => if t.cells.all T.one then some (.cells t.cells, fun id => .ptr id 0) else none
    | none => none
  | .makeMap _ none => some (.map [], fun id => .mapr id)
  | .makeSlice t l c =>
    match tyD C t, intV (opd fr l), intV (opd fr c) with
    | some (.slice e), some n, some m =>
      match C.ty e with
      | some i =>
        if n = m ∧ 0 ≤ n ∧ n.toNat * i.bytes ≤ roomB ∧ n ≤ 9223372036854775807 then
          match (T.ofVal i.zero).map T.cells with
          | some zs => if zs.length = i.size ∧ zs.all T.one = true then some (.cells (repeatL zs n.toNat), fun id => .loc id 0 n.toNat n.toNat) else none
          | none => none
        else none
      | none => none
    | _, _, _ => none
  | _ => none

def appendOp (C : Cfg) (fr : Fr) (st : St) (t u : TypeId) (s x : Operand) : Option (T × St) :=
  match tyD C t, opd fr s, opd fr x with
  | some (.slice e), some (.sl nl n cs o), some y =>
    match C.ty e, tyD C u with
    | some i, some ud =>
      if cs.length = n * i.size ∧ 0 < i.size ∧ 0 < i.bytes ∧ notIntD ud = true ∧ ((T.ofVal i.zero).map fun z => z.cells.length) = some i.size then
        match tailOf st i.size y with
        | some (m, ys) =>
          if m = 0 then some (.sl nl n cs o, st)
          else if (n + m) * i.bytes ≤ roomB then
            match o with
            | .ro => none
            | .ex | .lit => some (.sl false (n + m) (cs ++ ys) (.tok st.E.length), { st with E := st.E ++ [n + m] })
            | .tok k => if st.E[k]? = some n ∧ nl = false ∧ (0 < n ∨ i.size = 1) then some (.sl false (n + m) (cs ++ ys) (.tok k), { st with E := st.E.set k (n + m) }) else none
          else none
        | none => none
      else none
    | _, _ => none
  | _, _, _ => none

def mapOf (H : List Box) : Option T → Option (List (Value × T))
  | some (.mapr id) => match H[id]? with
    | some (.map es) => some es
    | _ => none
  | some (.d (.map none)) => some []
  | _ => none

def lookupOp (C : Cfg) (fr : Fr) (H : List Box) (t : TypeId) (x ix : Operand) (ok : Bool) : Option T :=
  match tyD C t with
  | some (.map k e) =>
    match C.ty k, C.ty e, opdV fr ix, mapOf H (opd fr x) with
    | some ki, some ei, some key, some es =>
      if keyD ki.desc then
        match findT ki.desc key es with
        | some (some t) => some (if ok then .tup [t, .d (.bool true)] else t)
        | some none => match T.ofVal ei.zero with
          | some z => some (if ok then .tup [z, .d (.bool false)] else z)
          | none => none
        | none => none
      else none
    | _, _, _, _ => none
  | _ => none

def mapUpdOp (C : Cfg) (fr : Fr) (H : List Box) (t : TypeId) (m k v : Operand) : Option (List Box) :=
  match tyD C t with
  | some (.map kt _) =>
    match C.ty kt, opdV fr k, opd fr m, opd fr v with
    | some ki, some key, some (.mapr id), some x =>
      if keyD ki.desc ∧ flatV key then
        match H[id]? with
        | some (.map es) => (setT ki.desc key x es).map fun es' => H.set id (.map es')
        | _ => none
      else none
    | _, _, _, _ => none
  | _ => none

def lenOp (C : Cfg) (fr : Fr) (H : List Box) (t : TypeId) (x : Operand) : Option T :=
  match tyD C t, opd fr x with
  | some .string, some (.d (.string s)) => some (.d (.int .i64 s.size))
  | some (.slice _), some (.sl _ n _ _) => some (.d (.int .i64 n))
  | some (.slice _), some (.loc _ _ n _) => some (.d (.int .i64 n))
  | some (.map _ _), some (.mapr id) => match H[id]? with
    | some (.map es) => some (.d (.int .i64 es.length))
    | _ => none
  | _, _ => none

def convOp (C : Cfg) (o : Oper) (fr : Fr) (src dst : TypeId) (x : Operand) : Option T :=
  match opd fr x with
  | some (.sl nl n cs ow) =>
    match tyD C src, tyD C dst with
    | some (.slice e), some .string => match tyD C e with
      | some (.int .u8) => if cs.length = n then (strOfD cs).map fun bs => .d (.string ⟨bs.toArray⟩) else none
      | _ => none
    | some (.slice _), some (.slice e) => match tyD C e with
      | some (.int .u8) => match ow with
        | .lit => if src = dst ∧ nl = false then some (.sl nl n cs .lit) else none
        | _ => none
      | _ => none
    | _, _ => none
  | some (.d (.string s)) =>
    match tyD C src, tyD C dst with
    | some .string, some (.slice e) => match tyD C e with
      | some (.int .u8) => some (.sl false s.size (bytesD s) .ro)
      | _ => none
    | _, _ => flat1 C o fr [x]
  | some (.d (.int k n)) => match tyD C src, tyD C dst with
    | some _, some (.int k') => some (.d (.int k' (k'.wrap n)))
    | _, _ => flat1 C o fr [x]
  | _ => flat1 C o fr [x]

def unOpT (C : Cfg) (o : Oper) (fr : Fr) (op : UnOp) (x : Operand) : Option T :=
  match op, opd fr x with
  | .not, some (.d (.bool b)) => some (.d (.bool !b))
  | _, _ => flat1 C o fr [x]

/-- A text's byte. -/
def strIx (P : Program) (t : TypeId) : T → T → Option T
  | .d (.string s), .d (.int _ i) => match P.underlying t with
    | some .string => if 0 ≤ i then (s.data.toList[i.toNat]?).map fun b => .d (.int .u8 b.toNat) else none
    | _ => none
  | _, _ => none

def indexT (C : Cfg) (o : Oper) (fr : Fr) (t : TypeId) (x ix : Operand) : Option T :=
  match opd fr x, opd fr ix with
  | some a, some b => match strIx C.P t a b with
    | some r => some r
    | none => flat1 C o fr [x, ix]
  | _, _ => none

/-- Numbers and texts, without the model's own words. -/
def fastI (op : BinOp) (k : IntKind) (a b : Int) : Option T :=
  match op with
  | .add => some (.d (.int k (k.wrap (a + b))))
  | .sub => some (.d (.int k (k.wrap (a - b))))
  | .mul => some (.d (.int k (k.wrap (a * b))))
  | .eql => some (.d (.bool (a == b)))
  | .neq => some (.d (.bool (a != b)))
  | .lss => some (.d (.bool (decide (a < b))))
  | .leq => some (.d (.bool (decide (a ≤ b))))
  | .gtr => some (.d (.bool (decide (b < a))))
  | .geq => some (.d (.bool (decide (b ≤ a))))
  | .quo => if b = 0 then none else some (.d (.int k (k.wrap (a.tdiv b))))
  | .rem => if b = 0 then none else some (.d (.int k (a.tmod b)))
  | .and => some (.d (.int k (k.wrap (BitVec.ofInt k.bits a &&& BitVec.ofInt k.bits b).toNat)))
  | .or => some (.d (.int k (k.wrap (BitVec.ofInt k.bits a ||| BitVec.ofInt k.bits b).toNat)))
  | .xor => some (.d (.int k (k.wrap (BitVec.ofInt k.bits a ^^^ BitVec.ofInt k.bits b).toNat)))
  | _ => none

def fastS (op : BinOp) (k : IntKind) (a b : Int) : Option T :=
  if 0 ≤ b then
    match op with
    | .shl => some (.d (.int k (k.wrap (a * 2 ^ (min b.toNat k.bits)))))
    | .shr => some (.d (.int k (a.fdiv (2 ^ (min b.toNat k.bits)))))
    | _ => none
  else none

def isShift : BinOp → Bool
  | .shl | .shr => true
  | _ => false

def fastOp (op : BinOp) : T → T → Option T
  | .d (.int k a), .d (.int k' b) => if isShift op then fastS op k a b else if k = k' then fastI op k a b else none
  | .d (.string x), .d (.string y) => match op with
    | .eql => some (.d (.bool (x.data.toList == y.data.toList)))
    | .neq => some (.d (.bool (!(x.data.toList == y.data.toList))))
    | .add => if x.size + y.size ≤ 9223372036854775807 then some (.d (.string (x ++ y))) else none
    | .lss => some (.d (.bool (Op.bytesLess x.data.toList y.data.toList)))
    | _ => none
  | _, _ => none

/-- Structs of numbers, truths and texts held against each other, field by field. -/
def fieldsEq (P : Program) (xs ys : List T) : List Field → Option Bool
  | [] => some true
  | f :: fs =>
    if f.name = "_" then none else
    match P.underlying f.type, xs[f.offset]?, ys[f.offset]? with
    | some (.int _), some (.d (.int k a)), some (.d (.int k' b)) => if k = k' then (fieldsEq P xs ys fs).map (decide (a = b) && ·) else none
    | some .bool, some (.d (.bool a)), some (.d (.bool b)) => (fieldsEq P xs ys fs).map (decide (a = b) && ·)
    | some .string, some (.d (.string a)), some (.d (.string b)) => (fieldsEq P xs ys fs).map ((a.data.toList == b.data.toList) && ·)
    | _, _, _ => none

def eqT (P : Program) (t : TypeId) : T → T → Option Bool
  | .agg xs, .agg ys => match P.underlying t with
    | some (.struct fs) => if P.stoodInHeld t = false ∧ P.eqGuardType P.depth t = false then fieldsEq P xs ys fs.toList else none
    | _ => none
  | .d (.bool a), .d (.bool b) => match P.underlying t with
    | some .bool => some (decide (a = b))
    | _ => none
  | _, _ => none

def eqR : BinOp → Option Bool → Option T
  | .eql, some r => some (.d (.bool r))
  | .neq, some r => some (.d (.bool !r))
  | _, _ => none

def binOpT (C : Cfg) (o : Oper) (fr : Fr) (op : BinOp) (t : TypeId) (x y : Operand) : Option T :=
  match opd fr x, opd fr y, tyD C t with
  | some a, some b, some u =>
    match nilEq u a b, op with
    | some r, .eql => some (.d (.bool r))
    | some r, .neq => some (.d (.bool (!r)))
    | some _, _ => none
    | none, _ => match fastOp op a b with
      | some r => some r
      | none => match eqR op (eqT C.P t a b) with
        | some r => some r
        | none => flat1 C o fr [x, y]
  | _, _, _ => none

def fieldV (C : Cfg) (fr : Fr) (t : TypeId) (x : Operand) (f : Nat) : Option T :=
  match tyD C t, opd fr x with
  | some (.struct fields), some (.agg cs) =>
    match fields[f]? with
    | some fd => match C.ty fd.type with
      | some i => (pieceL cs fd.offset i.size).bind (ofCells (isAggD i.desc))
      | none => none
    | none => none
  | _, _ => none

def minmax (isMax : Bool) : List T → Option T
  | [.d (.int k a), .d (.int k' b)] => if k = k' then some (.d (.int k (if isMax then (if a < b then b else a) else (if b < a then b else a)))) else none
  | _ => none

/-- An operation that changes nothing that the machine knows of. -/
def quietT (C : Cfg) (o : Oper) (fr : Fr) (H : List Box) : Option T :=
  match o.op with
  | .move x | .assign x => opd fr x
  | .pick c a b => match opd fr c with
    | some (.d (.bool true)) => opd fr a
    | some (.d (.bool false)) => opd fr b
    | _ => none
  | .build t ps => buildOp C fr t ps.toList
  | .buildSlice t len ps => buildSliceOp C fr t len ps.toList
  | .load t a => loadOp C fr H t a
  | .nilCheck x => match opd fr x with
    | some (.ptr id off) => some (.ptr id off)
    | some (.el cs i) => some (.el cs i)
    | _ => none
  | .binOp op t x y _ => binOpT C o fr op t x y
  | .unOp op _ x => unOpT C o fr op x
  | .convert s d x => convOp C o fr s d x
  | .makeInterface _ x => flat1 C o fr [x]
  | .makeFunc (.func f) first captured => match opds fr first.toList, opds fr captured.toList with
    | some a, some b => some (.clo f a b)
    | _, _ => none
  | .slice t x lo hi mx => sliceOp C o fr t x lo hi mx
  | .fieldAddr s x f => fieldA C fr s x f
  | .field t x f => fieldV C fr t x f
  | .indexAddr t x ix => indexOp C fr t x ix
  | .index t x ix => indexT C o fr t x ix
  | .lookup t x ix ok => lookupOp C fr H t x ix ok
  | .extract t ix => match opd fr t with
    | some (.tup cs) => cs[ix]?
    | _ => none
  | .call { callee := .builtin b, args, argTypes } =>
    match b, args.toList, argTypes.toList with
    | .len, [x], [t] => lenOp C fr H t x
    | .max, [x, y], [_, _] => (opds fr [x, y]).bind (minmax true)
    | .min, [x, y], [_, _] => (opds fr [x, y]).bind (minmax false)
    | _, _, _ => none
  | _ => none

/-- An operation that writes a box. -/
def writeT (C : Cfg) (o : Oper) (fr : Fr) (H : List Box) : Option (List Box) :=
  match o.op with
  | .store t a x => storeOp C fr H t a x
  | .mapUpdate t m k x => mapUpdOp C fr H t m k x
  | _ => none

inductive Cls where
  | quiet | reads | alloc | writes | append | call
  deriving DecidableEq

/-- What kind of operation it is. -/
def clsOf (o : Oper) : Cls :=
  match o.op with
  | .load .. | .lookup .. => .reads
  | .store .. | .mapUpdate .. => .writes
  | .alloc .. | .box .. | .makeMap .. | .makeSlice .. => .alloc
  | .call c => match c.callee with
    | .builtin .append => .append
    | .builtin .len => .reads
    | .builtin _ => .quiet
    | _ => .call
  | _ => .quiet

/-- An operation that is no call of a function: its value (none: it has none) and the state behind it. -/
def opT (C : Cfg) (o : Oper) (fr : Fr) (st : St) : Option (Option T × St) :=
  match clsOf o with
  | .quiet | .reads => match quietT C o fr st.H with
    | some t => some (some t, st)
    | none => none
  | .alloc => match allocT C o fr with
    | some (b, mk) => some (some (mk st.H.length), { st with H := st.H ++ [b] })
    | none => none
  | .writes => match writeT C o fr st.H with
    | some H => some (none, { st with H := H })
    | none => none
  | .append => match o.op with
    | .call c => match c.args.toList, c.argTypes.toList with
      | [s, x], [t, u] => match appendOp C fr st t u s x with
        | some (t, st') => some (some t, st')
        | none => none
      | _, _ => none
    | _ => none
  | .call => none

/-! ### Calls -/
def closeV : T → Option T
  | .d v => some (.d v)
  | .sl nl n cs .ex => some (.sl nl n cs .ex)
  | .sl nl n cs .lit => some (.sl nl n cs .ex)
  | .sl nl n cs _ => some (.sl nl n cs .ro)
  | _ => none

def closeL : List T → Option (List T)
  | [] => some []
  | t :: ts => match closeV t, closeL ts with
    | some a, some b => some (a :: b)
    | _, _ => none

def closeT : T → Option T
  | .agg cs => (closeL cs).map .agg
  | t => closeV t

def closeAll : List T → Option (List T)
  | [] => some []
  | t :: ts => match closeT t, closeAll ts with
    | some a, some b => some (a :: b)
    | _, _ => none

/-- What a closed call hands back, into a state of its caller. -/
def ret1 (s : St) (st : St) : T → Option (T × St)
  | .sl nl n cs (.tok k) => if s.E[k]? = some n ∧ nl = false then some (.sl nl n cs (.tok st.E.length), { st with E := st.E ++ [n] }) else some (.sl nl n cs .ro, st)
  | .loc id 0 n c => if n = c then
      match s.H[id]? with
      | some (.cells cs) => (T.toDs cs).map fun ds => (.sl false n ds .ro, st)
      | _ => none
    else none
  | t => (closeT t).map fun t => (t, st)

def retV (s : St) (st : St) : T → Option (T × St)
  | .tup [] => some (.tup [], st)
  | .tup (t :: ts) => match ret1 s st t, closeAll ts with
    | some (a, st'), some b => some (.tup (a :: b), st')
    | _, _ => none
  | t => ret1 s st t

inductive Ex where
  | normal
  | exit (id : Nat)
  | ret
  deriving Inhabited

abbrev CallF := Nat → List T → St → Option (T × St)

def calleeT (fr : Fr) (c : Call) : Option (Nat × List T) :=
  match c.callee with
  | .value x => match opd fr x, opds fr c.args.toList with
    | some (.clo g first cap), some as => some (g, first ++ as ++ cap)
    | _, _ => none
  | _ => none

/-- A slice that a closed call has just handed back becomes an array of its own. -/
def thawT (yes : Bool) (st : St) (t : T) (st' : St) : Option T × St :=
  match yes, t with
  | true, .sl false n cs (.tok k) =>
    if k = st.E.length ∧ st'.E = st.E ++ [n] ∧ cs.all D.isFlat = true then (some (.loc st'.H.length 0 n n), { H := st'.H ++ [.cells (cs.map D.toT)], E := st.E }) else (some t, st')
  | _, _ => (some t, st')

/-- A made slice that nobody writes. -/
def iceT (C : Cfg) (o : Oper) (fr : Fr) (st : St) : Option T :=
  match allocT C o fr with
  | some (.cells ts, mk) => match mk st.H.length with
    | .loc id 0 n m => if n = m ∧ id = st.H.length then (T.toDs ts).map fun ds => .sl false n ds .ro else none
    | _ => none
  | _ => none

def flagOf (g : Nat → Nat → Bool) (f : Nat) (o : Oper) : Bool :=
  match o.dst with
  | some s => g f s
  | none => false

def isApp (o : Oper) : Bool :=
  match o.op with
  | .call c => match c.callee with
    | .builtin .append => true
    | _ => false
  | _ => false

/-- A row that an append has just made becomes an array of its own. -/
def boxT (C : Cfg) (f : Nat) (o : Oper) (st : St) (r : Option (Option T × St)) : Option (Option T × St) :=
  if (isApp o && flagOf C.thaw f o) = true then
    match r with
    | some (some (.sl false n cs (.tok k)), st') => if k = st.E.length ∧ st'.E = st.E ++ [n] then some (some (.loc st.H.length 0 n n), ⟨st.H ++ [.cells (cs.map D.toT)], st.E⟩) else none
    | _ => none
  else r

/-- One operation, calls too. -/
def doOp (C : Cfg) (call : CallF) (f : Nat) (o : Oper) (fr : Fr) (st : St) : Option (Option T × St) :=
  match o.op with
  | .call c =>
    match c.callee with
    | .value _ =>
      match calleeT fr c with
      | some (g, as) => match call g as st with
        | some (t, st') => some (thawT (C.pure g && (match o.dst with | some s => C.thaw f s | none => false)) st t st')
        | none => none
      | none => none
    | _ => boxT C f o st (opT C o fr st)
  | .makeSlice _ _ _ => if flagOf C.ice f o then (iceT C o fr st).map fun t => (some t, st) else opT C o fr st
  | _ => opT C o fr st

def undefT : T := .tup []

/-- Is an operation wanted (none: it can't be told)? -/
def wantedT (ops : Array Oper) (fr : Fr) (o : Oper) : Option Bool :=
  match o.guard with
  | none => some true
  | some (j, want) =>
    match (ops[j]?).bind (·.dst) with
    | none => some false
    | some s => match lookF fr s with
      | some (.d (.bool b)) => some (b == want)
      | some (.tup []) => some false
      | _ => none

def runOps (C : Cfg) (call : CallF) (f : Nat) (ops : Array Oper) : List Oper → Fr → St → Option (Fr × St)
  | [], fr, st => some (fr, st)
  | o :: os, fr, st =>
    match wantedT ops fr o with
    | some true =>
      match doOp C call f o fr st with
      | some (r, st') => runOps C call f ops os (putF fr o.dst (r.getD undefT)) st'
      | none => none
    | some false => runOps C call f ops os (putF fr o.dst undefT) st
    | none => none

def isAnchor (o : Oper) : Bool :=
  match clsOf o with
  | .quiet | .reads => false
  | _ => true

/-- It leaves the boxes alone. -/
def fixH (C : Cfg) (f : Nat) (o : Oper) : Bool :=
  match clsOf o with
  | .quiet | .reads => true
  | .append => !(flagOf C.thaw f o)
  | .call => match o.op with
    | .call c => match c.callee with
      | .value (.func g) => (C.pure g || (C.prim g).isSome) && !(match o.dst with | some s => C.thaw f s | none => false)
      | _ => false
    | _ => false
  | _ => false

def keepF (ks : List Nat) (fr : Fr) : Fr := ks.filterMap fun k => (lookF fr k).map fun t => (k, t)

/-- One operation of a region whose order the tape draws. -/
def stepAny (C : Cfg) (call : CallF) (f : Nat) (ops : Array Oper) (o : Oper) (fr : Fr) (st : St) : Option (T × St) :=
  match wantedT ops (keepF (o.looksAt ops) fr) o with
  | some true =>
    match clsOf o with
    | .quiet => (quietT C o (keepF (o.looksAt ops) fr) []).map fun t => (t, st)
    | .reads => (quietT C o (keepF (o.looksAt ops) fr) st.H).map fun t => (t, st)
    | _ => (doOp C call f o (keepF (o.looksAt ops) fr) st).map fun r => (r.1.getD undefT, r.2)
  | some false => some (undefT, st)
  | none => none

def runAny (C : Cfg) (call : CallF) (f : Nat) (ops : Array Oper) : List Oper → Fr → St → Option (Fr × St)
  | [], fr, st => some (fr, st)
  | o :: os, fr, st =>
    match stepAny C call f ops o fr st with
    | some (r, st') => runAny C call f ops os (putF fr o.dst r) st'
    | none => none

def maskOf (o : Oper) (acc : List Nat) : Nat :=
  o.after.toList.foldl (fun m e => if Region.binds .any e then m ||| 2 ^ e.on ||| acc.getD e.on 0 else m) 0

/-- For each operation, those that stand before it in every order. -/
def ancs : List Oper → List Nat → List Nat
  | [], acc => acc
  | o :: os, acc => ancs os (acc ++ [maskOf o acc])

def befB (m : List Nat) (i j : Nat) : Bool := (m.getD j 0).testBit i

def pairOK (C : Cfg) (f : Nat) (ops : Array Oper) (m : List Nat) (i j : Nat) (o p : Oper) : Bool :=
  (match p.dst with
    | some t => (!(o.looksAt ops).contains t || befB m i j || befB m j i) && o.dst != some t
    | none => true) &&
  (!(isAnchor o && isAnchor p && decide (i < j)) || befB m i j) &&
  (!(clsOf o = .reads && isAnchor p && !fixH C f p) || befB m i j || befB m j i)

def drawOK (C : Cfg) (f : Nat) (ops : Array Oper) : Bool :=
  let m := ancs ops.toList []
  (List.range ops.size).all fun i => match ops[i]? with
    | none => false
    | some o => (o.after.toList.all fun e => !Region.binds .any e || decide (e.on < i)) &&
      (List.range ops.size).all fun j => match ops[j]? with
        | none => false
        | some p => i == j || pairOK C f ops m i j o p

def codeOK (C : Cfg) (f n : Nat) : Code → Bool
  | .region _ ops draw => (ops.toList.all fun o => match o.dst with | some d => decide (d < n) | none => true) && (!draw || drawOK C f ops)
  | .seq a b => codeOK C f n a && codeOK C f n b
  | .cond _ a b => codeOK C f n a && codeOK C f n b
  | .block _ a => codeOK C f n a
  | .loop a => codeOK C f n a
  | _ => true

def fnOK (C : Cfg) (f : Nat) : Bool :=
  match C.P.funcs[f]? with
  | some fn => (match fn.body with | some c => codeOK C f fn.ntmps c | none => false) && !(fn.name == "runtime.NumGoroutine")
  | none => false

/-- Some slots of a frame, if all are there. -/
def needF : List Nat → Fr → Option Fr
  | [], _ => some []
  | k :: ks, fr => match lookF fr k with
    | some t => match needF ks fr with
      | some r => some ((k, t) :: r)
      | none => none
    | none => none

/-- A value that names no box from m on. -/
def T.lo1 (m : Nat) : T → Bool
  | .d _ => true
  | .sl _ _ _ _ => true
  | .el _ _ => true
  | .ptr id _ => decide (id < m)
  | .loc id _ _ _ => decide (id < m)
  | .mapr id => decide (id < m)
  | _ => false

def T.lo (m : Nat) : T → Bool
  | .agg cs => cs.all (T.lo1 m)
  | .tup cs => cs.all (T.lo1 m)
  | .clo _ a b => a.all (T.lo1 m) && b.all (T.lo1 m)
  | t => t.lo1 m

def Box.lo (m : Nat) : Box → Bool
  | .cells cs => cs.all (T.lo m)
  | .map es => es.all fun e => e.2.lo m
  | .dead => true

/-- Boxes that nothing names any more are dropped. -/
def gcT (m : Nat) (fr : Fr) (st : St) : St :=
  if st.H.length ≤ m then st else
  if fr.all (fun e => e.2.lo m) && (st.H.take m).all (Box.lo m) then ⟨st.H.take m, st.E⟩ else st

def loopT (F : Fr → St → Option (Ex × Fr × St)) : Nat → Fr → St → Option (Ex × Fr × St)
  | 0, _, _ => none
  | n + 1, fr, st =>
    match F fr st with
    | some (.normal, fr', st') => loopT F n fr' (gcT st.H.length fr' st')
    | r => r

/-- An array of one's own is written no more: it becomes a slice that may be told of anywhere. -/
def frzT (s : Nat) (fr : Fr) (st : St) : Fr × St :=
  match lookF fr s with
  | some (.loc id 0 n c) =>
    match st.H[id]? with
    | some (.cells cs) => match T.toDs cs with
      | some ds => if n = c ∧ (fr.filter fun e => e.1 != s).all (fun e => e.2.lo id) = true ∧ (st.H.take id).all (Box.lo id) = true then
          (fr.map fun e => if e.1 = s then (e.1, .sl false n ds .ro) else e, ⟨st.H.take id, st.E⟩) else (fr, st)
      | none => (fr, st)
    | _ => (fr, st)
  | _ => (fr, st)

def frzO (o : Option Nat) (fr : Fr) (st : St) : Fr × St :=
  match o with
  | none => (fr, st)
  | some s => frzT s fr st

def Cfg.frzOf (C : Cfg) (f id : Nat) : Option Nat := if C.pure f then C.frz f id else none

def runC (C : Cfg) (call : CallF) (n : Nat) (f : Nat) : Code → Fr → St → Option (Ex × Fr × St)
  | .skip, fr, st => some (.normal, fr, st)
  | .region id ops draw, fr, st =>
    match needF (C.live f id) fr with
    | some fr =>
      match (if draw then runAny C call f ops ops.toList fr st else runOps C call f ops ops.toList fr st) with
      | some (fr', st') => match needF (C.keep f id) fr' with
        | some fr' => some (.normal, (frzO (C.frzOf f id) fr' st').1, (frzO (C.frzOf f id) fr' st').2)
        | none => none
      | none => none
    | none => none
  | .seq a b, fr, st =>
    match runC C call n f a fr st with
    | some (.normal, fr', st') => runC C call n f b fr' st'
    | r => r
  | .cond c x y, fr, st =>
    match opd fr c with
    | some (.d (.bool true)) => runC C call n f x fr st
    | some (.d (.bool false)) => runC C call n f y fr st
    | _ => none
  | .block id b, fr, st =>
    match runC C call n f b fr st with
    | some (.exit i, fr', st') => if i = id then some (.normal, fr', st') else some (.exit i, fr', st')
    | r => r
  | .loop b, fr, st => loopT (fun fr st => runC C call n f b fr st) n fr st
  | .exit id, fr, st => some (.exit id, fr, st)
  | .ret, fr, st => some (.ret, fr, st)
  | _, _, _ => none

def enumF : Nat → List T → Fr
  | _, [] => []
  | k, t :: ts => (k, t) :: enumF (k + 1) ts

def resVar (C : Cfg) (fr : Fr) (H : List Box) : ResultVar → Option T
  | .tmp t => lookF fr t
  | .cell a t => loadOp C fr H t (.tmp a)

def resVars (C : Cfg) (fr : Fr) (H : List Box) : List ResultVar → Option (List T)
  | [] => some []
  | r :: rs => match resVar C fr H r, resVars C fr H rs with
    | some t, some ts => some (t :: ts)
    | _, _ => none

def resT (C : Cfg) (fn : Func) (fr : Fr) (H : List Box) : Option T :=
  match resVars C fr H fn.results.toList with
  | some [t] => some t
  | some ts => some (.tup ts)
  | none => none

def runB (C : Cfg) (call : CallF) (n : Nat) (f : Nat) (fn : Func) (args : List T) (st : St) : Option (T × St) :=
  match fn.body with
  | some c =>
    match runC C call n f c (enumF 0 args) st with
    | some (.normal, fr, st') | some (.ret, fr, st') => (resT C fn fr st'.H).map fun t => (t, st')
    | _ => none
  | none => none

def callT (C : Cfg) : Nat → CallF
  | 0, _, _, _ => none
  | k + 1, f, args, st =>
    match C.prim f with
    | some p => match closeAll args with
      | some as => match p as with
        | some (r, s') => retV s' st r
        | none => none
      | none => none
    | none =>
      match C.fn f with
      | none => none
      | some fn =>
        if C.pure f then
          match closeAll args with
          | some as => match runB C (callT C k) k f fn as ⟨[], []⟩ with
            | some (r, s') => retV s' st r
            | none => none
          | none => none
        else runB C (callT C k) k f fn args st

end Go.Tm
end
section
set_option linter.unusedVariables false
namespace Go.Tm
open Go Go.RowKit

structure Tk where
  g : Nat
  u : Nat
  cap : Nat
  sz : Nat

structure Gh where
  B : Nat
  A : Addr → Prop
  bx : Nat → Option Nat
  tk : Nat → Option Tk

/-- Cells that nobody writes any more. -/
def Im (G : Gh) (a : Addr) : Prop :=
  (a.block < G.B ∧ G.A a) ∨ (G.B ≤ a.block ∧ (∀ id g, G.bx id = some g → a.block ≠ g) ∧ ∀ k r, G.tk k = some r → a.block = r.g → a.off < r.u)

mutual
def DR (J : Addr → Prop) (w : World) : D → Value → Prop
  | .flat u, v => v = u ∧ flatV u = true
  | .slc nl n cs, v => (nl = true ∧ n = 0 ∧ cs = [] ∧ v = .slice none 0 0) ∨
      (nl = false ∧ ∃ ad cap, v = .slice (some ad) n cap ∧ n ≤ cap ∧ DRL J w ad 0 cs)
def DRL (J : Addr → Prop) (w : World) (ad : Addr) : Nat → List D → Prop
  | _, [] => True
  | k, x :: xs => (J (ad.add k) ∧ ∃ u, w.cell? (ad.add k) = some u ∧ DR J w x u) ∧ DRL J w ad (k + 1) xs
end

theorem DRL_get {J : Addr → Prop} {w : World} {ad : Addr} : ∀ {cs : List D} {k : Nat}, DRL J w ad k cs → ∀ (i : Nat) (x : D), cs[i]? = some x →
    J (ad.add (k + i)) ∧ ∃ u, w.cell? (ad.add (k + i)) = some u ∧ DR J w x u
  | [], _, _, i, x, h => by simp at h
  | y :: ys, k, h, 0, x, hx => by
    simp at hx; subst hx
    unfold DRL at h
    exact h.1
  | y :: ys, k, h, i + 1, x, hx => by
    unfold DRL at h
    have := DRL_get (cs := ys) (k := k + 1) h.2 i x (by simpa using hx)
    rwa [show k + (i + 1) = k + 1 + i by omega]

theorem DRL_mk {J : Addr → Prop} {w : World} {ad : Addr} : ∀ {cs : List D} {k : Nat}, (∀ (i : Nat) (x : D), cs[i]? = some x →
    J (ad.add (k + i)) ∧ ∃ u, w.cell? (ad.add (k + i)) = some u ∧ DR J w x u) → DRL J w ad k cs
  | [], _, _ => by unfold DRL; trivial
  | y :: ys, k, h => by
    unfold DRL
    refine ⟨by simpa using h 0 y (by simp), DRL_mk fun i x hx => ?_⟩
    have := h (i + 1) x (by simpa using hx)
    rwa [show k + (i + 1) = k + 1 + i by omega] at this

mutual
theorem DR_mono {J J' : Addr → Prop} {w w' : World} (h : ∀ a, J a → (w.cell? a).isSome = true → J' a ∧ w'.cell? a = w.cell? a) :
    ∀ (x : D) (v : Value), DR J w x v → DR J' w' x v
  | .flat u, v, hx => by unfold DR at *; exact hx
  | .slc nl n cs, v, hx => by
    unfold DR at *
    rcases hx with hx | ⟨h1, ad, cap, h2, h3, h4⟩
    · exact .inl hx
    · exact .inr ⟨h1, ad, cap, h2, h3, DRL_mono h ad cs 0 h4⟩
theorem DRL_mono {J J' : Addr → Prop} {w w' : World} (h : ∀ a, J a → (w.cell? a).isSome = true → J' a ∧ w'.cell? a = w.cell? a) (ad : Addr) :
    ∀ (cs : List D) (k : Nat), DRL J w ad k cs → DRL J' w' ad k cs
  | [], _, _ => by unfold DRL; trivial
  | x :: xs, k, hx => by
    unfold DRL at *
    obtain ⟨⟨h1, u, h2, h3⟩, h4⟩ := hx
    obtain ⟨h5, h6⟩ := h _ h1 (by rw [h2]; rfl)
    exact ⟨⟨h5, u, h6.trans h2, DR_mono h x u h3⟩, DRL_mono h ad xs (k + 1) h4⟩
end

def OwR (G : Gh) (E : List Nat) (ad : Addr) (n cap len : Nat) : Ow → Prop
  | .ro => True
  | .ex => cap = n
  | .lit => cap = n ∧ G.B ≤ ad.block
  | .tok k => k < E.length ∧ n ≤ E.getD k 0 ∧ (E[k]? = some n → ∃ r, G.tk k = some r ∧ ad = ⟨r.g, 0, none⟩ ∧ cap = r.cap ∧ len = n * r.sz ∧ (n = 0 → r.sz = 1))

mutual
def VR (G : Gh) (E : List Nat) (w : World) : T → Value → Prop
  | .d u, v => v = u ∧ flatV u = true
  | .sl nl n cs o, v => (nl = true ∧ n = 0 ∧ cs = [] ∧ v = .slice none 0 0) ∨
      (nl = false ∧ ∃ ad cap, v = .slice (some ad) n cap ∧ n ≤ cap ∧ DRL (Im G) w ad 0 cs ∧ OwR G E ad n cap cs.length o)
  | .agg cs, v => ∃ vs, v = .agg vs ∧ VRL G E w cs vs.toList
  | .tup cs, v => ∃ vs, v = .tuple vs ∧ VRL G E w cs vs.toList
  | .ptr id off, v => ∃ g, G.bx id = some g ∧ v = .pointer (some ⟨g, off, none⟩)
  | .el cs i, v => ∃ ad : Addr, v = .pointer (some (ad.add i)) ∧ DRL (Im G) w ad 0 cs
  | .loc id off n cap, v => ∃ g c, G.bx id = some g ∧ v = .slice (some ⟨g, off, none⟩) n c ∧ cap ≤ c
  | .mapr id, v => ∃ g, G.bx id = some g ∧ v = .map (some g)
  | .clo f a b, v => ∃ fs cs, v = .func (.func f) fs cs ∧ VRL G E w a fs.toList ∧ VRL G E w b cs.toList
def VRL (G : Gh) (E : List Nat) (w : World) : List T → List Value → Prop
  | [], [] => True
  | t :: ts, v :: vs => VR G E w t v ∧ VRL G E w ts vs
  | _, _ => False
end

structure Ext (G : Gh) (E : List Nat) (w : World) (G' : Gh) (E' : List Nat) (w' : World) : Prop where
  B : G'.B = G.B
  A : G'.A = G.A
  im : ∀ a, Im G a → (w.cell? a).isSome = true → Im G' a ∧ w'.cell? a = w.cell? a
  bx : ∀ id g, G.bx id = some g → G'.bx id = some g
  len : E.length ≤ E'.length
  le : ∀ k, E.getD k 0 ≤ E'.getD k 0
  tk : ∀ k n, E[k]? = some n → E'[k]? = some n → G'.tk k = G.tk k

theorem Ext.refl (G : Gh) (E : List Nat) (w : World) : Ext G E w G E w := ⟨rfl, rfl, fun _ h _ => ⟨h, rfl⟩, fun _ _ h => h, Nat.le_refl _, fun _ => Nat.le_refl _, fun _ _ _ _ => rfl⟩

theorem getD_some {E : List Nat} {k n : Nat} (h : E[k]? = some n) : E.getD k 0 = n := by simp [h]
theorem getD_of_lt {E : List Nat} {k : Nat} (h : k < E.length) : E[k]? = some (E.getD k 0) := by simp [List.getElem?_eq_getElem h, List.getD_eq_getElem?_getD]

theorem Ext.trans {G G1 G2 : Gh} {E E1 E2 : List Nat} {w w1 w2 : World} (h : Ext G E w G1 E1 w1) (k : Ext G1 E1 w1 G2 E2 w2) : Ext G E w G2 E2 w2 := by
  refine ⟨k.B.trans h.B, k.A.trans h.A, fun a ha hs => ?_, fun id g hg => k.bx _ _ (h.bx _ _ hg), Nat.le_trans h.len k.len, fun i => Nat.le_trans (h.le i) (k.le i), fun i n h1 h2 => ?_⟩
  · obtain ⟨h1, h2⟩ := h.im a ha hs
    obtain ⟨h3, h4⟩ := k.im a h1 (by rw [h2]; exact hs)
    exact ⟨h3, h4.trans h2⟩
  · have hlt : i < E.length := (List.getElem?_eq_some_iff.1 h1).1
    have h3 := getD_of_lt (Nat.lt_of_lt_of_le hlt h.len)
    have h4 := h.le i
    have h5 := k.le i
    rw [getD_some h1] at h4
    rw [getD_some h2] at h5
    have h6 : E1.getD i 0 = n := by omega
    rw [h6] at h3
    exact (k.tk i n h3 h2).trans (h.tk i n h1 h3)

mutual
theorem VR_mono {G G' : Gh} {E E' : List Nat} {w w' : World} (h : Ext G E w G' E' w') : ∀ (t : T) (v : Value), VR G E w t v → VR G' E' w' t v
  | .d u, v, ht => by unfold VR at *; exact ht
  | .sl nl n cs o, v, ht => by
    unfold VR at *
    rcases ht with ht | ⟨h1, ad, cap, h2, h3, h4, h5⟩
    · exact .inl ht
    · refine .inr ⟨h1, ad, cap, h2, h3, DRL_mono h.im ad cs 0 h4, ?_⟩
      cases o with
      | ro => trivial
      | ex => exact h5
      | lit => exact ⟨h5.1, by rw [h.B]; exact h5.2⟩
      | tok k =>
        obtain ⟨ha, hb, hc⟩ := h5
        refine ⟨Nat.lt_of_lt_of_le ha h.len, Nat.le_trans hb (h.le k), fun he => ?_⟩
        have h6 := h.le k
        rw [getD_some he] at h6
        have h7 := getD_of_lt ha
        rw [show E.getD k 0 = n by omega] at h7
        rw [h.tk k n h7 he]
        exact hc h7
  | .agg cs, v, ht => by
    unfold VR at *
    obtain ⟨vs, h1, h2⟩ := ht
    exact ⟨vs, h1, VRL_mono h cs vs.toList h2⟩
  | .tup cs, v, ht => by
    unfold VR at *
    obtain ⟨vs, h1, h2⟩ := ht
    exact ⟨vs, h1, VRL_mono h cs vs.toList h2⟩
  | .ptr id off, v, ht => by
    unfold VR at *
    obtain ⟨g, h1, h2⟩ := ht
    exact ⟨g, h.bx _ _ h1, h2⟩
  | .el cs i, v, ht => by
    unfold VR at *
    obtain ⟨ad, h1, h2⟩ := ht
    exact ⟨ad, h1, DRL_mono h.im ad cs 0 h2⟩
  | .loc id off n cap, v, ht => by
    unfold VR at *
    obtain ⟨g, c, h1, h2, h3⟩ := ht
    exact ⟨g, c, h.bx _ _ h1, h2, h3⟩
  | .mapr id, v, ht => by
    unfold VR at *
    obtain ⟨g, h1, h2⟩ := ht
    exact ⟨g, h.bx _ _ h1, h2⟩
  | .clo f a b, v, ht => by
    unfold VR at *
    obtain ⟨fs, cs, h1, h2, h3⟩ := ht
    exact ⟨fs, cs, h1, VRL_mono h a fs.toList h2, VRL_mono h b cs.toList h3⟩
theorem VRL_mono {G G' : Gh} {E E' : List Nat} {w w' : World} (h : Ext G E w G' E' w') : ∀ (ts : List T) (vs : List Value), VRL G E w ts vs → VRL G' E' w' ts vs
  | [], [], _ => by unfold VRL; trivial
  | t :: ts, v :: vs, ht => by
    unfold VRL at *
    exact ⟨VR_mono h t v ht.1, VRL_mono h ts vs ht.2⟩
  | [], _ :: _, ht => by unfold VRL at ht; exact ht.elim
  | _ :: _, [], ht => by unfold VRL at ht; exact ht.elim
end

theorem VRL_length {G : Gh} {E : List Nat} {w : World} : ∀ {ts : List T} {vs : List Value}, VRL G E w ts vs → vs.length = ts.length
  | [], [], _ => rfl
  | t :: ts, v :: vs, h => by unfold VRL at h; simp [VRL_length h.2]
  | [], _ :: _, h => by unfold VRL at h; exact h.elim
  | _ :: _, [], h => by unfold VRL at h; exact h.elim

theorem VRL_get {G : Gh} {E : List Nat} {w : World} : ∀ {ts : List T} {vs : List Value}, VRL G E w ts vs → ∀ (i : Nat) (t : T), ts[i]? = some t → ∃ v, vs[i]? = some v ∧ VR G E w t v
  | [], _, _, i, t, h => by simp at h
  | t :: ts, v :: vs, h, 0, x, hx => by unfold VRL at h; simp at hx; subst hx; exact ⟨v, by simp, h.1⟩
  | t :: ts, v :: vs, h, i + 1, x, hx => by unfold VRL at h; simpa using VRL_get h.2 i x (by simpa using hx)
  | _ :: _, [], h, _, _, _ => by unfold VRL at h; exact h.elim

theorem VRL_mk {G : Gh} {E : List Nat} {w : World} : ∀ {ts : List T} {vs : List Value}, vs.length = ts.length → (∀ (i : Nat) (t : T) (v : Value), ts[i]? = some t → vs[i]? = some v → VR G E w t v) → VRL G E w ts vs
  | [], [], _, _ => by unfold VRL; trivial
  | t :: ts, v :: vs, hl, h => by
    unfold VRL
    exact ⟨h 0 t v (by simp) (by simp), VRL_mk (by simpa using hl) fun i t v h1 h2 => h (i + 1) t v (by simpa using h1) (by simpa using h2)⟩
  | [], _ :: _, h, _ => by simp at h
  | _ :: _, [], h, _ => by simp at h

theorem VRL_append {G : Gh} {E : List Nat} {w : World} : ∀ {ts : List T} {vs : List Value} {ts' : List T} {vs' : List Value}, VRL G E w ts vs → VRL G E w ts' vs' → VRL G E w (ts ++ ts') (vs ++ vs')
  | [], [], _, _, _, h => h
  | t :: ts, v :: vs, _, _, h, h' => by unfold VRL at h; simp only [List.cons_append]; unfold VRL; exact ⟨h.1, VRL_append h.2 h'⟩
  | [], _ :: _, _, _, h, _ => by unfold VRL at h; exact h.elim
  | _ :: _, [], _, _, h, _ => by unfold VRL at h; exact h.elim

def fzOK (fz : Nat × Nat) (n : Nat) : Prop := fz.1 = fz.2 ∨ n ≤ fz.1

def BoxR (G : Gh) (E : List Nat) (w : World) (g : Nat) : Box → Prop
  | .cells cs => ∃ arr e fz, w.heap[g]? = some (.cells arr e fz) ∧ cs.length ≤ arr.size ∧ fzOK fz arr.size ∧
      ∀ (i : Nat) (c : T), cs[i]? = some c → c.one = true ∧ ∃ u, arr[i]? = some u ∧ VR G E w c u
  | .map es => ∃ arr clock, w.heap[g]? = some (.map arr clock) ∧ arr.size = es.length ∧
      ∀ (i : Nat) (k : Value) (t : T), es[i]? = some (k, t) → flatV k = true ∧ ∃ en, arr[i]? = some en ∧ en.key = k ∧ VR G E w t en.val
  | .dead => False

structure SR (st : St) (G : Gh) (w0 w : World) : Prop where
  below : Below G.B w0 w
  base : G.B ≤ w.heap.size
  box : ∀ id g, G.bx id = some g → G.B ≤ g ∧ g < w.heap.size ∧ ∃ b, st.H[id]? = some b ∧ BoxR G st.E w g b
  boxInj : ∀ i j g, G.bx i = some g → G.bx j = some g → i = j
  tok : ∀ k r, G.tk k = some r → G.B ≤ r.g ∧ r.g < w.heap.size ∧ 0 < r.sz ∧ (∃ n, st.E[k]? = some n ∧ r.u = n * r.sz ∧ n ≤ r.cap) ∧
      ∃ arr e fz, w.heap[r.g]? = some (.cells arr e fz) ∧ arr.size = r.cap * r.sz ∧ fzOK fz arr.size
  tokInj : ∀ i j r s, G.tk i = some r → G.tk j = some s → r.g = s.g → i = j
  apart : ∀ id g k r, G.bx id = some g → G.tk k = some r → g ≠ r.g

def FR (N : Nat) (G : Gh) (E : List Nat) (w : World) (fr : Fr) (a : Act) : Prop :=
  a.tmps.size = N ∧ ∀ s t, lookF fr s = some t → s < N ∧ VR G E w t (a.eval (.tmp s))

theorem FR_mono {N : Nat} {G G' : Gh} {E E' : List Nat} {w w' : World} {fr : Fr} {a : Act} (h : Ext G E w G' E' w') (hf : FR N G E w fr a) : FR N G' E' w' fr a :=
  ⟨hf.1, fun s t ht => ⟨(hf.2 s t ht).1, VR_mono h _ _ (hf.2 s t ht).2⟩⟩

/-! ### constants -/
theorem VR_of1 {G : Gh} {E : List Nat} {w : World} {v : Value} {t : T} (h : T.of1 v = some t) : VR G E w t v := by
  unfold T.of1 at h
  split at h
  · simp [nilS] at h; subst h; unfold VR; simp
  · split at h
    · rename_i hf; simp at h; subst h; unfold VR; exact ⟨rfl, hf⟩
    · simp at h

theorem VRL_ofL {G : Gh} {E : List Nat} {w : World} : ∀ {vs : List Value} {ts : List T}, T.ofL vs = some ts → VRL G E w ts vs
  | [], ts, h => by simp [T.ofL] at h; subst h; unfold VRL; trivial
  | v :: vs, ts, h => by
    simp only [T.ofL] at h
    split at h
    · rename_i t ts' h1 h2
      simp at h; subst h
      unfold VRL
      exact ⟨VR_of1 h1, VRL_ofL h2⟩
    · simp at h

theorem VR_ofVal {G : Gh} {E : List Nat} {w : World} {v : Value} {t : T} (h : T.ofVal v = some t) : VR G E w t v := by
  unfold T.ofVal at h
  split at h
  · rename_i cs
    cases hl : T.ofL cs.toList with
    | none => simp [hl] at h
    | some ts => simp [hl] at h; subst h; unfold VR; exact ⟨cs, rfl, VRL_ofL hl⟩
  · rename_i cs
    cases hl : T.ofL cs.toList with
    | none => simp [hl] at h
    | some ts => simp [hl] at h; subst h; unfold VR; exact ⟨cs, rfl, VRL_ofL hl⟩
  · exact VR_of1 h

theorem VR_val1 {G : Gh} {E : List Nat} {w : World} {t : T} {v u : Value} (h : VR G E w t v) (hv : T.val1 t = some u) : v = u := by
  unfold T.val1 at hv
  split at hv
  · simp at hv; unfold VR at h; exact h.1.trans hv
  · simp at hv; unfold VR at h
    rcases h with ⟨_, _, _, h⟩ | ⟨h, _⟩
    · exact h.trans hv
    · cases h
  · simp at hv

theorem VRL_valL {G : Gh} {E : List Nat} {w : World} : ∀ {ts : List T} {vs us : List Value}, VRL G E w ts vs → T.valL ts = some us → vs = us
  | [], [], us, _, h => by simp [T.valL] at h; exact h.symm
  | t :: ts, v :: vs, us, h, hv => by
    unfold VRL at h
    simp only [T.valL] at hv
    split at hv
    · rename_i x xs h1 h2
      simp at hv
      rw [← hv, VR_val1 h.1 h1, VRL_valL h.2 h2]
    · simp at hv
  | [], _ :: _, _, h, _ => by unfold VRL at h; exact h.elim
  | _ :: _, [], _, h, _ => by unfold VRL at h; exact h.elim

theorem VR_val {G : Gh} {E : List Nat} {w : World} {t : T} {v u : Value} (h : VR G E w t v) (hv : T.val t = some u) : v = u := by
  unfold T.val at hv
  split at hv
  · rename_i cs
    cases hl : T.valL cs with
    | none => simp [hl] at hv
    | some us =>
      simp [hl] at hv
      unfold VR at h
      obtain ⟨vs, h1, h2⟩ := h
      have := VRL_valL h2 hl
      rw [h1, ← hv, ← this]
  · exact VR_val1 h hv

/-! ### operands -/
theorem VR_opd {N : Nat} {G : Gh} {E : List Nat} {w : World} {fr : Fr} {a : Act} {x : Operand} {t : T} (hf : FR N G E w fr a) (h : opd fr x = some t) : VR G E w t (a.eval x) := by
  cases x with
  | tmp s => exact (hf.2 s t h).2
  | const v => exact VR_ofVal h
  | global g => simp [opd] at h
  | func f => simp [opd] at h; subst h; unfold VR; exact ⟨#[], #[], rfl, by unfold VRL; trivial, by unfold VRL; trivial⟩

theorem VRL_opds {N : Nat} {G : Gh} {E : List Nat} {w : World} {fr : Fr} {a : Act} (hf : FR N G E w fr a) : ∀ {xs : List Operand} {ts : List T}, opds fr xs = some ts → VRL G E w ts (xs.map a.eval)
  | [], ts, h => by simp [opds] at h; subst h; unfold VRL; trivial
  | x :: xs, ts, h => by
    simp only [opds] at h
    split at h
    · rename_i t ts' h1 h2
      simp at h; subst h
      simp only [List.map_cons]
      unfold VRL
      exact ⟨VR_opd hf h1, VRL_opds hf h2⟩
    · simp at h

theorem eval_opdV {N : Nat} {G : Gh} {E : List Nat} {w : World} {fr : Fr} {a : Act} {x : Operand} {v : Value} (hf : FR N G E w fr a) (h : opdV fr x = some v) : a.eval x = v := by
  unfold opdV at h
  cases ho : opd fr x with
  | none => simp [ho] at h
  | some t => simp [ho] at h; exact VR_val (VR_opd hf ho) h

theorem eval_intV {N : Nat} {G : Gh} {E : List Nat} {w : World} {fr : Fr} {a : Act} {x : Operand} {n : Int} (hf : FR N G E w fr a) (h : intV (opd fr x) = some n) : ∃ k, a.eval x = .int k n := by
  unfold intV at h
  split at h
  · rename_i k m ho
    simp at h; subst h
    have := VR_opd hf ho
    unfold VR at this
    exact ⟨k, this.1⟩
  · simp at h

/-! ### a slot written -/
theorem lookF_put {fr : Fr} {dst : Option Nat} {t : T} {s : Nat} : lookF (putF fr dst t) s = if dst = some s then some t else lookF fr s := by
  cases dst with
  | none => simp [putF]
  | some d => simp only [putF, lookF, Option.some.injEq]

theorem FR_put {N : Nat} {G : Gh} {E : List Nat} {w : World} {fr : Fr} {a : Act} {dst : Option Nat} {t : T} {v : Value} (hf : FR N G E w fr a) (hd : ∀ d, dst = some d → d < N) (h : VR G E w t v) :
    FR N G E w (putF fr dst t) (a.put dst v) := by
  cases dst with
  | none => exact hf
  | some d =>
    have hdN := hd d rfl
    refine ⟨by simp [Act.put, hf.1], fun s t' ht => ?_⟩
    rw [lookF_put] at ht
    by_cases hs : d = s
    · subst hs
      simp at ht; subst ht
      refine ⟨hdN, ?_⟩
      have : (a.put (some d) v).eval (.tmp d) = v := by
        simp [Act.eval, Act.put, hf.1, hdN]
      rwa [this]
    · simp [hs] at ht
      obtain ⟨h1, h2⟩ := hf.2 s t' ht
      refine ⟨h1, ?_⟩
      have : (a.put (some d) v).eval (.tmp s) = a.eval (.tmp s) := by
        simp [Act.eval, Act.put, Array.getElem?_setIfInBounds_ne hs]
      rwa [this]

theorem VR_undef {G : Gh} {E : List Nat} {w : World} : VR G E w undefT undef := by
  unfold undefT undef VR
  exact ⟨#[], rfl, by unfold VRL; trivial⟩

theorem lookF_keep {ks : List Nat} {fr : Fr} {s : Nat} {t : T} (h : lookF (keepF ks fr) s = some t) : lookF fr s = some t := by
  unfold keepF at h
  induction ks with
  | nil => simp [lookF] at h
  | cons k ks ih =>
    rw [List.filterMap_cons] at h
    cases hk : lookF fr k with
    | none => simp [hk] at h; exact ih (by simpa using h)
    | some x =>
      simp [hk, lookF] at h
      split at h
      · rename_i e; subst e; simp at h; subst h; exact hk
      · exact ih (by simpa using h)

theorem FR_keep {N : Nat} {G : Gh} {E : List Nat} {w : World} {fr : Fr} {a : Act} (ks : List Nat) (hf : FR N G E w fr a) : FR N G E w (keepF ks fr) a :=
  ⟨hf.1, fun s t ht => hf.2 s t (lookF_keep ht)⟩

end Go.Tm
end
section
set_option linter.unusedVariables false
namespace Go.Tm
open Go Go.RowKit

/-- One block has become another one; nothing else has. -/
structure Upd (w w' : World) (g : Nat) (o : Obj) : Prop where
  os : w'.os = w.os
  tape : w'.tape = w.tape
  output : w'.output = w.output
  size : w'.heap.size = w.heap.size
  other : ∀ k, k ≠ g → w'.heap[k]? = w.heap[k]?
  here : w'.heap[g]? = some o

theorem Addr.add_none (g o i : Nat) : (⟨g, o, none⟩ : Addr).add i = ⟨g, o + i, none⟩ := by unfold Addr.add; split <;> simp_all
theorem Addr.block_add (a : Addr) (i : Nat) : (a.add i).block = a.block := by unfold Addr.add; split <;> rfl
theorem Addr.add_add (a : Addr) (i j : Nat) : (a.add i).add j = a.add (i + j) := by
  unfold Addr.add
  by_cases hi : i = 0 <;> by_cases hj : j = 0 <;> simp [hi, hj, Nat.add_assoc]

theorem cell_of_block {w : World} {g i : Nat} {arr : Array Value} {e : TypeId} {fz : Nat × Nat} (h : w.heap[g]? = some (.cells arr e fz)) : w.cell? ⟨g, i, none⟩ = arr[i]? := by
  simp [World.cell?, h]
theorem cell_lt {w : World} {a : Addr} (h : (w.cell? a).isSome = true) : a.block < w.heap.size := by
  cases hc : w.cell? a with
  | none => simp [hc] at h
  | some v => exact World.block_lt_of_cell? w a hc
theorem cell_spot {w : World} {a : Addr} (h : (w.cell? a).isSome = true) : a.spot = none := by
  unfold World.cell? at h
  split at h
  · split at h
    · simp at h
    · rename_i hs; simpa using hs
  · simp at h

theorem fz_not {fz : Nat × Nat} {n i : Nat} (h : fzOK fz n) (hi : i < n) : (decide (fz.1 ≤ i) && decide (i < fz.2)) = false := by
  by_cases h1 : fz.1 ≤ i <;> by_cases h2 : i < fz.2 <;> simp [h1, h2]
  rcases h with h | h <;> omega

theorem list_put {α : Type} (l : List α) (k : Nat) (v : α) (rest : List α) (h : k + 1 + rest.length ≤ l.length) :
    (l.set k v).take (k + 1) ++ rest ++ (l.set k v).drop (k + 1 + rest.length) = l.take k ++ (v :: rest) ++ l.drop (k + (rest.length + 1)) := by
  have h1 : (l.set k v).take (k + 1) = l.take k ++ [v] := by
    apply List.ext_getElem?
    intro j
    simp only [List.getElem?_take, List.getElem?_set, List.getElem?_append, List.length_take]
    by_cases hj : j < k
    · have h2 : j < k + 1 := by omega
      have h3 : ¬ k = j := by omega
      have h4 : j < min k l.length := by omega
      simp [h2, h3, h4, hj]
    · by_cases hk : j = k
      · subst hk
        have h4 : ¬ j < min j l.length := by omega
        have h5 : j < l.length := by omega
        have h6 : j - min j l.length = 0 := by omega
        simp [h4, h5, h6]
      · have h2 : ¬ j < k + 1 := by omega
        have h4 : ¬ j < min k l.length := by omega
        have h6 : j - min k l.length ≠ 0 := by omega
        simp [h2, h4]
        omega
  have h2 : (l.set k v).drop (k + 1 + rest.length) = l.drop (k + (rest.length + 1)) := by
    apply List.ext_getElem?
    intro j
    simp only [List.getElem?_drop, List.getElem?_set]
    have : ¬ k = k + 1 + rest.length + j := by omega
    simp [this]
    congr 1
    omega
  rw [h1, h2]
  simp

theorem run_storeCells_fz (P : Program) (g o : Nat) (t : TypeId) (fz : Nat × Nat) : ∀ (vs : List Value) (i : Nat) (cur : Array Value) (w : World), w.heap[g]? = some (.cells cur t fz) → o + i + vs.length ≤ cur.size → fzOK fz cur.size →
    (∀ v ∈ vs, v.oneCell' = true) → ∃ w', (storeCells ⟨g, o, none⟩ vs i).run P w = .ok () w' ∧ Upd w w' g (.cells (cur.toList.take (o + i) ++ vs ++ cur.toList.drop (o + i + vs.length)).toArray t fz)
  | [], i, cur, w, hg, _, _, _ => by
    refine ⟨w, rfl, rfl, rfl, rfl, rfl, fun _ _ => rfl, ?_⟩
    simpa using hg
  | v :: rest, i, cur, w, hg, hl, hf, h1 => by
    have hi : o + i < cur.size := by simp at hl; omega
    have hcell : w.cell? ⟨g, o + i, none⟩ = some cur[o + i] := by simp [World.cell?, hg, hi]
    have hfro : w.frozen? ⟨g, o + i, none⟩ = false := by simp only [World.frozen?, hg]; exact fz_not hf hi
    have hst : (store ((⟨g, o, none⟩ : Addr).add i) v).run P w = .ok () (w.setCell ⟨g, o + i, none⟩ v) := by
      rw [Addr.add_none, run_store P w _ v _ (h1 v (by simp)), hcell]
      simp [hfro]
    have hg2 : (w.setCell ⟨g, o + i, none⟩ v).heap[g]? = some (.cells (cur.setIfInBounds (o + i) v) t fz) := by
      simp only [World.setCell, Array.getElem?_modify, if_true, hg, Option.map_some]
      rfl
    obtain ⟨w', h2, h3⟩ := run_storeCells_fz P g o t fz rest (i + 1) (cur.setIfInBounds (o + i) v) (w.setCell ⟨g, o + i, none⟩ v) hg2 (by simp at hl ⊢; omega) (by simpa using hf) (fun x hx => h1 x (by simp [hx]))
    refine ⟨w', ?_, h3.os, h3.tape, h3.output, ?_, fun k hk => ?_, ?_⟩
    · simp only [storeCells, Sem.run_bind, hst, Result.andThen_ok]
      exact h2
    · rw [h3.size]; simp [World.setCell]
    · rw [h3.other k hk, Below.heap_setCell _ _ _ _ (by simpa using hk)]
    · rw [h3.here]
      have e := list_put cur.toList (o + i) v rest (by simp at hl ⊢; omega)
      simp only [Array.toList_setIfInBounds]
      rw [show o + (i + 1) = o + i + 1 by omega, e]
      simp [Nat.add_assoc]

/-- The world has grown, or a mark was laid on what it had. -/
structure Keep (B : Nat) (w w' : World) : Prop where
  os : w'.os = w.os
  tape : w'.tape = w.tape
  output : w'.output = w.output
  size : w.heap.size ≤ w'.heap.size
  low : ∀ k, k < B → w'.heap[k]? = w.heap[k]?
  block : ∀ k, k < w.heap.size → w'.heap[k]? = w.heap[k]? ∨ ∃ arr e fz fz', w.heap[k]? = some (.cells arr e fz) ∧ w'.heap[k]? = some (.cells arr e fz') ∧ (fzOK fz arr.size → fzOK fz' arr.size)

theorem Keep.refl (B : Nat) (w : World) : Keep B w w := ⟨rfl, rfl, rfl, Nat.le_refl _, fun _ _ => rfl, fun _ _ => .inl rfl⟩
theorem Keep.of_below {B : Nat} {w w' : World} (h : Below w.heap.size w w') (hB : B ≤ w.heap.size) : Keep B w w' :=
  ⟨h.os, h.tape, h.output, h.size, fun k hk => h.block k (by omega), fun k hk => .inl (h.block k hk)⟩
theorem Keep.trans {B : Nat} {a b c : World} (h : Keep B a b) (k : Keep B b c) : Keep B a c := by
  refine ⟨k.os.trans h.os, k.tape.trans h.tape, k.output.trans h.output, Nat.le_trans h.size k.size, fun i hi => (k.low i hi).trans (h.low i hi), fun i hi => ?_⟩
  have hi2 : i < b.heap.size := Nat.lt_of_lt_of_le hi h.size
  rcases h.block i hi with h1 | ⟨arr, e, fz, fz', h1, h2, h3⟩
  · rcases k.block i hi2 with k1 | ⟨arr, e, fz, fz', k1, k2, k3⟩
    · exact .inl (k1.trans h1)
    · exact .inr ⟨arr, e, fz, fz', h1 ▸ k1, k2, k3⟩
  · rcases k.block i hi2 with k1 | ⟨arr', e', gz, gz', k1, k2, k3⟩
    · exact .inr ⟨arr, e, fz, fz', h1, k1.trans h2, h3⟩
    · rw [h2] at k1
      injection k1 with k1
      injection k1 with a1 a2 a3
      subst a1 a2 a3
      exact .inr ⟨arr, e, fz, gz', h1, k2, fun h => k3 (h3 h)⟩

theorem Keep.cell {B : Nat} {w w' : World} (h : Keep B w w') {a : Addr} (hs : (w.cell? a).isSome = true) : w'.cell? a = w.cell? a := by
  have hlt := cell_lt hs
  rcases h.block _ hlt with h1 | ⟨arr, e, fz, fz', h1, h2, _⟩
  · simp [World.cell?, h1]
  · simp [World.cell?, h1, h2]

theorem Ext_keep {G : Gh} {E : List Nat} {B : Nat} {w w' : World} (h : Keep B w w') : Ext G E w G E w' :=
  ⟨rfl, rfl, fun a ha hs => ⟨ha, h.cell hs⟩, fun _ _ h => h, Nat.le_refl _, fun _ => Nat.le_refl _, fun _ _ _ _ => rfl⟩

theorem BoxR_ext {G G' : Gh} {E E' : List Nat} {w w' : World} {g : Nat} {b : Box} (hx : Ext G E w G' E' w') (h : BoxR G E w g b)
    (hg : w'.heap[g]? = w.heap[g]? ∨ ∃ arr e fz fz', w.heap[g]? = some (.cells arr e fz) ∧ w'.heap[g]? = some (.cells arr e fz') ∧ (fzOK fz arr.size → fzOK fz' arr.size)) : BoxR G' E' w' g b := by
  cases b with
  | cells cs =>
    obtain ⟨arr, e, fz, h1, h2, h3, h4⟩ := h
    rcases hg with hg | ⟨arr', e', fz1, fz2, k1, k2, k3⟩
    · exact ⟨arr, e, fz, hg.trans h1, h2, h3, fun i c hc => ⟨(h4 i c hc).1, (h4 i c hc).2.imp fun u hu => ⟨hu.1, VR_mono hx _ _ hu.2⟩⟩⟩
    · rw [h1] at k1
      injection k1 with k1
      injection k1 with a1 a2 a3
      subst a1 a2 a3
      exact ⟨arr, e, fz2, k2, h2, k3 h3, fun i c hc => ⟨(h4 i c hc).1, (h4 i c hc).2.imp fun u hu => ⟨hu.1, VR_mono hx _ _ hu.2⟩⟩⟩
  | map es =>
    obtain ⟨arr, clock, h1, h2, h3⟩ := h
    rcases hg with hg | ⟨arr', e', fz1, fz2, k1, k2, k3⟩
    · exact ⟨arr, clock, hg.trans h1, h2, fun i k t ht => ⟨(h3 i k t ht).1, (h3 i k t ht).2.imp fun en hen => ⟨hen.1, hen.2.1, VR_mono hx _ _ hen.2.2⟩⟩⟩
    · rw [h1] at k1; cases k1
  | dead => exact h

theorem SR_keep {st : St} {G : Gh} {w0 w w' : World} (h : SR st G w0 w) (k : Keep G.B w w') : SR st G w0 w' := by
  have hx : Ext G st.E w G st.E w' := Ext_keep k
  refine ⟨h.below.trans ⟨k.os, k.tape, k.output, k.size, k.low⟩, Nat.le_trans h.base k.size, fun id g hg => ?_, h.boxInj, fun i r hr => ?_, h.tokInj, h.apart⟩
  · obtain ⟨h1, h2, b, h3, h4⟩ := h.box id g hg
    exact ⟨h1, Nat.lt_of_lt_of_le h2 k.size, b, h3, BoxR_ext hx h4 (k.block g h2)⟩
  · obtain ⟨h1, h2, h3, h4, arr, e, fz, h5, h6, h7⟩ := h.tok i r hr
    refine ⟨h1, Nat.lt_of_lt_of_le h2 k.size, h3, h4, ?_⟩
    rcases k.block r.g h2 with k1 | ⟨arr', e', fz1, fz2, k1, k2, k3⟩
    · exact ⟨arr, e, fz, k1.trans h5, h6, h7⟩
    · rw [h5] at k1
      injection k1 with k1
      injection k1 with a1 a2 a3
      subst a1 a2 a3
      exact ⟨arr, e, fz2, k2, h6, k3 h7⟩

/-- More boxes that nobody has yet. -/
theorem SR_more {st : St} {G : Gh} {w0 w : World} {bs : List Box} (h : SR st G w0 w) : SR { st with H := st.H ++ bs } G w0 w :=
  ⟨h.below, h.base, fun id g hg => by
    obtain ⟨h1, h2, b, h3, h4⟩ := h.box id g hg
    refine ⟨h1, h2, b, ?_, h4⟩
    rw [List.getElem?_append_left (List.getElem?_eq_some_iff.1 h3).1]
    exact h3, h.boxInj, h.tok, h.tokInj, h.apart⟩

theorem SR_box_lt {st : St} {G : Gh} {w0 w : World} (h : SR st G w0 w) {id g : Nat} (hg : G.bx id = some g) : id < st.H.length := by
  obtain ⟨_, _, b, h3, _⟩ := h.box id g hg
  exact (List.getElem?_eq_some_iff.1 h3).1
theorem SR_tok_lt {st : St} {G : Gh} {w0 w : World} (h : SR st G w0 w) {k : Nat} {r : Tk} (hr : G.tk k = some r) : k < st.E.length := by
  obtain ⟨_, _, _, ⟨n, h3, _⟩, _⟩ := h.tok k r hr
  exact (List.getElem?_eq_some_iff.1 h3).1

/-! ### a new block -/
theorem keep_alloc {B : Nat} {w : World} (o : Obj) (hB : B ≤ w.heap.size) : Keep B w (w.alloc o) := Keep.of_below ((Below.refl _ _).alloc (Nat.le_refl _) o) hB
theorem heap_new (w : World) (o : Obj) : (w.alloc o).heap[w.heap.size]? = some o := by
  show (w.heap.push o)[w.heap.size]? = some o
  simp

def Gh.box (G : Gh) (id g : Nat) : Gh := { G with bx := fun i => if i = id then some g else G.bx i }

/-- A block that came up last becomes a box. -/
theorem SR_newbox {st : St} {G : Gh} {w0 w w1 : World} {id g : Nat} {b : Box} (h : SR st G w0 w) (k : Keep G.B w w1) (hg : g < w1.heap.size) (hB : G.B ≤ g) (hid : G.bx id = none) (hb : st.H[id]? = some b)
    (hx : Ext G st.E w (G.box id g) st.E w1) (hfresh : ∀ i x, G.bx i = some x → x ≠ g) (hfreshT : ∀ k r, G.tk k = some r → r.g ≠ g)
    (hR : BoxR (G.box id g) st.E w1 g b) : SR st (G.box id g) w0 w1 := by
  have h1 := SR_keep h k
  refine ⟨h1.below, h1.base, fun i x hi => ?_, fun i j x hi hj => ?_, h1.tok, h.tokInj, fun i x k r hi hk => ?_⟩
  · simp only [Gh.box] at hi
    split at hi
    · rename_i e; subst e; injection hi with hi; subst hi
      exact ⟨hB, hg, b, hb, hR⟩
    · obtain ⟨h1, h2, b', h3, h4⟩ := h.box i x hi
      exact ⟨h1, Nat.lt_of_lt_of_le h2 k.size, b', h3, BoxR_ext hx h4 (k.block x h2)⟩
  · simp only [Gh.box] at hi hj
    split at hi <;> split at hj
    · rename_i e1 e2; rw [e1, e2]
    · injection hi with hi; exact absurd hi.symm (hfresh j x hj)
    · injection hj with hj; exact absurd hj.symm (hfresh i x hi)
    · exact h.boxInj i j x hi hj
  · simp only [Gh.box] at hi
    split at hi
    · injection hi with hi; subst hi; exact fun e => hfreshT k r hk e.symm
    · exact h.apart i x k r hi hk

theorem Ext_newbox {st : St} {G : Gh} {w0 w w1 : World} {id g : Nat} (h : SR st G w0 w) (hk : ∀ a, (w.cell? a).isSome = true → w1.cell? a = w.cell? a) (hid : G.bx id = none) (hg : w.heap.size ≤ g) :
    Ext G st.E w (G.box id g) st.E w1 := by
  refine ⟨rfl, rfl, fun a ha hs => ⟨?_, hk a hs⟩, fun i x hi => ?_, Nat.le_refl _, fun _ => Nat.le_refl _, fun _ _ _ _ => rfl⟩
  · rcases ha with ha | ⟨h1, h2, h3⟩
    · exact .inl ha
    · refine .inr ⟨h1, fun i x hi => ?_, h3⟩
      simp only [Gh.box] at hi
      split at hi
      · injection hi with hi; subst hi
        have := cell_lt hs
        omega
      · exact h2 i x hi
  · simp only [Gh.box]
    split
    · rename_i e; subst e; rw [hid] at hi; cases hi
    · exact hi

/-! ### a box written -/
theorem Upd.cell_ne {w w' : World} {g : Nat} {o : Obj} (h : Upd w w' g o) {a : Addr} (ha : a.block ≠ g) : w'.cell? a = w.cell? a := by
  simp [World.cell?, h.other _ ha]

theorem Im_ne_box {st : St} {G : Gh} {w0 w : World} (h : SR st G w0 w) {id g : Nat} (hg : G.bx id = some g) {a : Addr} (ha : Im G a) : a.block ≠ g := by
  obtain ⟨h1, _⟩ := h.box id g hg
  rcases ha with ha | ⟨_, h2, _⟩
  · omega
  · exact h2 id g hg

theorem Ext_updbox {st : St} {G : Gh} {w0 w w' : World} (h : SR st G w0 w) {id g : Nat} {o : Obj} (hg : G.bx id = some g) (hu : Upd w w' g o) : Ext G st.E w G st.E w' :=
  ⟨rfl, rfl, fun a ha hs => ⟨ha, hu.cell_ne (Im_ne_box h hg ha)⟩, fun _ _ h => h, Nat.le_refl _, fun _ => Nat.le_refl _, fun _ _ _ _ => rfl⟩

theorem SR_updbox {st : St} {G : Gh} {w0 w w' : World} (h : SR st G w0 w) {id g : Nat} {o : Obj} {b : Box} (hg : G.bx id = some g) (hu : Upd w w' g o)
    (hR : BoxR G st.E w' g b) : SR { st with H := st.H.set id b } G w0 w' := by
  have hx := Ext_updbox h hg hu
  obtain ⟨hB, hlt, b0, hb0, _⟩ := h.box id g hg
  have hid := (List.getElem?_eq_some_iff.1 hb0).1
  refine ⟨h.below.trans ⟨hu.os, hu.tape, hu.output, by rw [hu.size]; exact Nat.le_refl _, fun k hk => hu.other k (by omega)⟩, by rw [hu.size]; exact h.base, fun i x hi => ?_, h.boxInj, fun k r hk => ?_, h.tokInj, h.apart⟩
  · obtain ⟨h1, h2, b', h3, h4⟩ := h.box i x hi
    by_cases e : i = id
    · subst e
      rw [hg] at hi; injection hi with hi; subst hi
      exact ⟨hB, by rw [hu.size]; exact hlt, b, by simp [hid], hR⟩
    · have hne : x ≠ g := fun e' => e (h.boxInj i id x hi (e' ▸ hg))
      refine ⟨h1, by rw [hu.size]; exact h2, b', by simp [Ne.symm e, h3], BoxR_ext hx h4 (.inl (hu.other x hne))⟩
  · obtain ⟨h1, h2, h3, h4, arr, e, fz, h5, h6⟩ := h.tok k r hk
    exact ⟨h1, by rw [hu.size]; exact h2, h3, h4, arr, e, fz, (hu.other r.g (Ne.symm (h.apart id g k r hg hk))).trans h5, h6⟩

/-! ### a token -/
def Gh.tok (G : Gh) (k : Nat) (r : Tk) : Gh := { G with tk := fun i => if i = k then some r else G.tk i }

theorem Ext_newtok {st : St} {G : Gh} {w0 w w1 : World} {r : Tk} {n : Nat} (h : SR st G w0 w) (hk : ∀ a, (w.cell? a).isSome = true → w1.cell? a = w.cell? a) (hg : w.heap.size ≤ r.g) :
    Ext G st.E w (G.tok st.E.length r) (st.E ++ [n]) w1 := by
  refine ⟨rfl, rfl, fun a ha hs => ⟨?_, hk a hs⟩, fun i x hi => hi, by simp, fun i => ?_, fun i m h1 h2 => ?_⟩
  · rcases ha with ha | ⟨h1, h2, h3⟩
    · exact .inl ha
    · refine .inr ⟨h1, h2, fun i s hi he => ?_⟩
      simp only [Gh.tok] at hi
      split at hi
      · injection hi with hi; subst hi
        have := cell_lt hs
        omega
      · exact h3 i s hi he
  · simp only [List.getD_eq_getElem?_getD]
    rcases Nat.lt_or_ge i st.E.length with hi | hi
    · rw [List.getElem?_append_left hi]; exact Nat.le_refl _
    · rw [List.getElem?_eq_none hi]; simp
  · simp only [Gh.tok]
    split
    · rename_i e; subst e; simp at h1
    · rfl

theorem SR_newtok {st : St} {G : Gh} {w0 w w1 : World} {r : Tk} {n : Nat} {arr : Array Value} {e : TypeId} {fz : Nat × Nat} (h : SR st G w0 w) (k : Keep G.B w w1)
    (hx : Ext G st.E w (G.tok st.E.length r) (st.E ++ [n]) w1) (hB : G.B ≤ r.g) (hlt : r.g < w1.heap.size) (hs : 0 < r.sz) (hu : r.u = n * r.sz) (hc : n ≤ r.cap)
    (hh : w1.heap[r.g]? = some (.cells arr e fz)) (ha : arr.size = r.cap * r.sz) (hf : fzOK fz arr.size)
    (hfresh : ∀ i x, G.bx i = some x → x ≠ r.g) (hfreshT : ∀ k s, G.tk k = some s → s.g ≠ r.g) : SR { st with E := st.E ++ [n] } (G.tok st.E.length r) w0 w1 := by
  have h1 := SR_keep h k
  refine ⟨h1.below, h1.base, fun i x hi => ?_, h.boxInj, fun j s hk => ?_, fun i j s t hi hj he => ?_, fun i x j s hi hk => ?_⟩
  · obtain ⟨h1, h2, b', h3, h4⟩ := h.box i x hi
    exact ⟨h1, Nat.lt_of_lt_of_le h2 k.size, b', h3, BoxR_ext hx h4 (k.block x h2)⟩
  · simp only [Gh.tok] at hk
    split at hk
    · rename_i e'; subst e'; injection hk with hk; subst hk
      exact ⟨hB, hlt, hs, ⟨n, by simp, hu, hc⟩, arr, e, fz, hh, ha, hf⟩
    · obtain ⟨h1, h2, h3, ⟨m, h4, h5⟩, h6⟩ := h1.tok j s hk
      exact ⟨h1, h2, h3, ⟨m, by rw [List.getElem?_append_left (List.getElem?_eq_some_iff.1 h4).1]; exact h4, h5⟩, h6⟩
  · simp only [Gh.tok] at hi hj
    split at hi <;> split at hj
    · rename_i e1 e2; rw [e1, e2]
    · injection hi with hi; subst hi; exact absurd he.symm (hfreshT j t hj)
    · injection hj with hj; subst hj; exact absurd he (hfreshT i s hi)
    · exact h.tokInj i j s t hi hj he
  · simp only [Gh.tok] at hk
    split at hk
    · injection hk with hk; subst hk; exact hfresh i x hi
    · exact h.apart i x j s hi hk

/-! ### a token grows -/
theorem Ext_growtok {st : St} {G : Gh} {w0 w w1 : World} {k : Nat} {r r' : Tk} {n n' : Nat} {ob : Obj} (h : SR st G w0 w) (hr : G.tk k = some r) (hn : st.E[k]? = some n) (hlt : n < n')
    (him : ∀ a, Im G a → (w.cell? a).isSome = true → Im (G.tok k r') a ∧ w1.cell? a = w.cell? a) : Ext G st.E w (G.tok k r') (st.E.set k n') w1 := by
  have hk := (List.getElem?_eq_some_iff.1 hn).1
  refine ⟨rfl, rfl, him, fun i x hi => hi, by simp, fun i => ?_, fun i m h1 h2 => ?_⟩
  · simp only [List.getD_eq_getElem?_getD, List.getElem?_set]
    by_cases e : k = i
    · subst e; rw [hn]; simp [hk]; omega
    · simp [e]
  · simp only [Gh.tok]
    split
    · rename_i e; subst e
      simp [hk] at h2
      rw [hn] at h1
      injection h1 with h1
      omega
    · rfl

theorem SR_growtok {st : St} {G : Gh} {w0 w w1 : World} {k : Nat} {r r' : Tk} {n n' : Nat} {arr : Array Value} {e : TypeId} {fz : Nat × Nat} (h : SR st G w0 w) (hr : G.tk k = some r)
    (hn : st.E[k]? = some n) (hx : Ext G st.E w (G.tok k r') (st.E.set k n') w1) (hbel : Below G.B w0 w1) (hsz : w.heap.size ≤ w1.heap.size)
    (hkeep : ∀ j, j < w.heap.size → j ≠ r'.g → w1.heap[j]? = w.heap[j]?)
    (hB : G.B ≤ r'.g) (hlt : r'.g < w1.heap.size) (hs : 0 < r'.sz) (hu : r'.u = n' * r'.sz) (hc : n' ≤ r'.cap)
    (hh : w1.heap[r'.g]? = some (.cells arr e fz)) (ha : arr.size = r'.cap * r'.sz) (hf : fzOK fz arr.size)
    (hfresh : ∀ i x, G.bx i = some x → x ≠ r'.g) (hfreshT : ∀ j s, j ≠ k → G.tk j = some s → s.g ≠ r'.g) : SR { st with E := st.E.set k n' } (G.tok k r') w0 w1 := by
  have hkl := (List.getElem?_eq_some_iff.1 hn).1
  refine ⟨hbel, Nat.le_trans h.base hsz, fun i x hi => ?_, h.boxInj, fun j s hk => ?_, fun i j s t hi hj he => ?_, fun i x j s hi hk => ?_⟩
  · obtain ⟨h1, h2, b', h3, h4⟩ := h.box i x hi
    exact ⟨h1, Nat.lt_of_lt_of_le h2 hsz, b', h3, BoxR_ext hx h4 (.inl (hkeep x h2 (hfresh i x hi)))⟩
  · simp only [Gh.tok] at hk
    split at hk
    · rename_i e'; subst e'; injection hk with hk; subst hk
      exact ⟨hB, hlt, hs, ⟨n', by simp [hkl], hu, hc⟩, arr, e, fz, hh, ha, hf⟩
    · rename_i hne
      obtain ⟨h1, h2, h3, ⟨m, h4, h5⟩, arr', e', fz', h6, h7⟩ := h.tok j s hk
      exact ⟨h1, Nat.lt_of_lt_of_le h2 hsz, h3, ⟨m, by simp only [List.getElem?_set]; rw [if_neg (Ne.symm hne)]; exact h4, h5⟩, arr', e', fz', (hkeep s.g h2 (hfreshT j s hne hk)).trans h6, h7⟩
  · simp only [Gh.tok] at hi hj
    split at hi <;> split at hj
    · rename_i e1 e2; rw [e1, e2]
    · rename_i e1 e2; injection hi with hi; subst hi; exact absurd he.symm (hfreshT j t e2 hj)
    · rename_i e1 e2; injection hj with hj; subst hj; exact absurd he (hfreshT i s e1 hi)
    · exact h.tokInj i j s t hi hj he
  · simp only [Gh.tok] at hk
    split at hk
    · injection hk with hk; subst hk; exact hfresh i x hi
    · exact h.apart i x j s hi hk

end Go.Tm
end
section
set_option linter.unusedVariables false
namespace Go.Tm
open Go Go.RowKit

theorem evS_run {α : Type} {P : Program} : ∀ {s : Sem α} {a : α}, evS P s = some a → ∀ w, s.run P w = .ok a w
  | .pure b, a, h, w => by simp [evS] at h; subst h; rfl
  | .program k, a, h, w => by simp only [evS] at h; exact evS_run (s := k P) h w
  | .load .., _, h, _ => by simp [evS] at h
  | .store .., _, h, _ => by simp [evS] at h
  | .new .., _, h, _ => by simp [evS] at h
  | .shape .., _, h, _ => by simp [evS] at h
  | .freeze .., _, h, _ => by simp [evS] at h
  | .frozen .., _, h, _ => by simp [evS] at h
  | .getObj .., _, h, _ => by simp [evS] at h
  | .setObj .., _, h, _ => by simp [evS] at h
  | .choose .., _, h, _ => by simp [evS] at h
  | .sys .., _, h, _ => by simp [evS] at h
  | .mark .., _, h, _ => by simp [evS] at h
  | .halt .., _, h, _ => by simp [evS] at h

section types
variable {P : Program} {t : TypeId} {i : TyI}
theorem ty_facts (h : tyOf P t = some i) : ∃ ti, P.info? t = some ti ∧ ti.size = i.size ∧ ti.bytes = i.bytes ∧ ti.zero = some i.zero ∧ P.underlying t = some i.desc := by
  unfold tyOf at h
  split at h
  · rename_i ti u h1 h2
    split at h
    · rename_i z hz
      simp at h; subst h
      exact ⟨ti, h1, rfl, rfl, hz, h2⟩
    · simp at h
  · simp at h
theorem ty_under (h : tyOf P t = some i) (w : World) : (underlying t).run P w = .ok i.desc w := by
  obtain ⟨ti, h1, h2, h3, h4, h5⟩ := ty_facts h
  exact run_underlying h5 w
theorem ty_info (h : tyOf P t = some i) : ∃ ti, (∀ w, (typeInfo t).run P w = .ok ti w) ∧ ti.size = i.size ∧ ti.bytes = i.bytes ∧ ti.zero = some i.zero := by
  obtain ⟨ti, h1, h2, h3, h4, h5⟩ := ty_facts h
  exact ⟨ti, fun w => by simp [typeInfo, h1], h2, h3, h4⟩
theorem ty_size (h : tyOf P t = some i) (w : World) : (sizeOf t).run P w = .ok i.size w := by
  obtain ⟨ti, h1, h2, _⟩ := ty_info h
  simp [sizeOf, h1, h2]
theorem ty_zero (h : tyOf P t = some i) (w : World) : (zeroValue t).run P w = .ok i.zero w := by
  obtain ⟨ti, h1, h2, h3, h4⟩ := ty_info h
  simp [zeroValue, h1, h4]
theorem ty_isAgg (h : tyOf P t = some i) (w : World) : (isAgg t).run P w = .ok (isAggD i.desc) w := by
  unfold isAgg
  simp only [Sem.run_bind, ty_under h, Result.andThen_ok]
  cases i.desc <;> rfl
end types

theorem tyD_some {C : Cfg} {t : Nat} {u : TypeDesc} (h : tyD C t = some u) : ∃ i, tyOf C.P t = some i ∧ i.desc = u := by
  unfold tyD Cfg.ty at h
  split at h
  · rename_i i hi; simp at h; exact ⟨i, hi, h⟩
  · simp at h

def KO (C : Cfg) (s : Sem Value) (G : Gh) (E : List Nat) (w : World) (t : T) : Prop := ∃ v w', s.run C.P w = .ok v w' ∧ Keep G.B w w' ∧ VR G E w' t v

theorem KO.same {C : Cfg} {s : Sem Value} {G : Gh} {E : List Nat} {w : World} {t : T} {v : Value} (h : s.run C.P w = .ok v w) (hv : VR G E w t v) : KO C s G E w t := ⟨v, w, h, Keep.refl _ _, hv⟩

/-! ### data and trees -/
theorem VR_toT {G : Gh} {E : List Nat} {w : World} {x : D} {v : Value} (h : DR (Im G) w x v) : VR G E w x.toT v := by
  cases x with
  | flat u => unfold DR at h; unfold D.toT VR; exact h
  | slc nl n cs =>
    unfold DR at h
    unfold D.toT VR
    rcases h with h | ⟨h1, ad, cap, h2, h3, h4⟩
    · exact .inl h
    · exact .inr ⟨h1, ad, cap, h2, h3, h4, trivial⟩

theorem DR_toD {G : Gh} {E : List Nat} {w : World} {t : T} {x : D} {v : Value} (h : VR G E w t v) (hx : T.toD t = some x) : DR (Im G) w x v := by
  unfold T.toD at hx
  split at hx
  · simp at hx; subst hx; unfold VR at h; unfold DR; exact h
  · simp at hx; subst hx; unfold VR at h; unfold DR
    rcases h with h | ⟨h1, ad, cap, h2, h3, h4, _⟩
    · exact .inl h
    · exact .inr ⟨h1, ad, cap, h2, h3, h4⟩
  · simp at hx

theorem D.toT_one (x : D) : x.toT.one = true := by cases x <;> rfl
theorem DR_one {J : Addr → Prop} {w : World} {x : D} {v : Value} (h : DR J w x v) : v.oneCell' = true := by
  cases x with
  | flat u =>
    unfold DR at h
    obtain ⟨rfl, h⟩ := h
    cases v <;> first | rfl | simp [flatV] at h
  | slc nl n cs =>
    unfold DR at h
    rcases h with ⟨_, _, _, rfl⟩ | ⟨_, ad, cap, rfl, _⟩ <;> rfl
theorem VR_one {G : Gh} {E : List Nat} {w : World} {t : T} {v : Value} (h : VR G E w t v) (h1 : t.one = true) : v.oneCell' = true := by
  cases t with
  | d u =>
    unfold VR at h
    obtain ⟨rfl, h⟩ := h
    cases v <;> first | rfl | simp [flatV] at h
  | sl nl n cs o =>
    unfold VR at h
    rcases h with ⟨_, _, _, rfl⟩ | ⟨_, ad, cap, rfl, _⟩ <;> rfl
  | agg cs => simp [T.one] at h1
  | tup cs => simp [T.one] at h1
  | el cs i => simp [T.one] at h1
  | ptr id off => unfold VR at h; obtain ⟨g, _, rfl⟩ := h; rfl
  | loc id off n cap => unfold VR at h; obtain ⟨g, c, _, rfl, _⟩ := h; rfl
  | mapr id => unfold VR at h; obtain ⟨g, _, rfl⟩ := h; rfl
  | clo f a b => unfold VR at h; obtain ⟨fs, cs, rfl, _⟩ := h; rfl

/-- Rows of data and of values. -/
def DRs (J : Addr → Prop) (w : World) : List D → List Value → Prop
  | [], [] => True
  | x :: xs, v :: vs => DR J w x v ∧ DRs J w xs vs
  | _, _ => False

theorem DRs_length {J : Addr → Prop} {w : World} : ∀ {xs : List D} {vs : List Value}, DRs J w xs vs → vs.length = xs.length
  | [], [], _ => rfl
  | x :: xs, v :: vs, h => by simp [DRs_length h.2]
  | [], _ :: _, h => h.elim
  | _ :: _, [], h => h.elim

theorem DRs_get {J : Addr → Prop} {w : World} : ∀ {xs : List D} {vs : List Value}, DRs J w xs vs → ∀ (i : Nat) (x : D), xs[i]? = some x → ∃ v, vs[i]? = some v ∧ DR J w x v
  | [], _, _, i, x, h => by simp at h
  | x :: xs, v :: vs, h, 0, y, hy => by simp at hy; subst hy; exact ⟨v, by simp, h.1⟩
  | x :: xs, v :: vs, h, i + 1, y, hy => by simpa using DRs_get h.2 i y (by simpa using hy)
  | _ :: _, [], h, _, _, _ => h.elim

theorem DRs_of {J : Addr → Prop} {w : World} : ∀ {xs : List D} {vs : List Value}, vs.length = xs.length → (∀ (i : Nat) (x : D) (v : Value), xs[i]? = some x → vs[i]? = some v → DR J w x v) → DRs J w xs vs
  | [], [], _, _ => trivial
  | x :: xs, v :: vs, hl, h => ⟨h 0 x v (by simp) (by simp), DRs_of (by simpa using hl) fun i x v h1 h2 => h (i + 1) x v (by simpa using h1) (by simpa using h2)⟩
  | [], _ :: _, h, _ => by simp at h
  | _ :: _, [], h, _ => by simp at h

theorem DRs_mono {J J' : Addr → Prop} {w w' : World} (h : ∀ a, J a → (w.cell? a).isSome = true → J' a ∧ w'.cell? a = w.cell? a) : ∀ {xs : List D} {vs : List Value}, DRs J w xs vs → DRs J' w' xs vs
  | [], [], _ => trivial
  | x :: xs, v :: vs, hx => ⟨DR_mono h x v hx.1, DRs_mono h hx.2⟩
  | [], _ :: _, h => h.elim
  | _ :: _, [], h => h.elim

theorem DRs_append {J : Addr → Prop} {w : World} : ∀ {xs : List D} {vs : List Value} {ys : List D} {us : List Value}, DRs J w xs vs → DRs J w ys us → DRs J w (xs ++ ys) (vs ++ us)
  | [], [], _, _, _, h => h
  | x :: xs, v :: vs, _, _, h, h' => ⟨h.1, DRs_append h.2 h'⟩
  | [], _ :: _, _, _, h, _ => h.elim
  | _ :: _, [], _, _, h, _ => h.elim

/-- What a row holds, as values. -/
theorem DRL_vals {J : Addr → Prop} {w : World} {ad : Addr} : ∀ {cs : List D} {k : Nat}, DRL J w ad k cs → ∃ us, DRs J w cs us ∧ ∀ (m : Nat) (u : Value), us[m]? = some u → w.cell? (ad.add (k + m)) = some u ∧ J (ad.add (k + m))
  | [], k, _ => ⟨[], trivial, fun m u h => by simp at h⟩
  | x :: xs, k, h => by
    unfold DRL at h
    obtain ⟨⟨h1, u, h2, h3⟩, h4⟩ := h
    obtain ⟨us, h5, h6⟩ := DRL_vals h4
    refine ⟨u :: us, ⟨h3, h5⟩, fun m v hv => ?_⟩
    cases m with
    | zero => simp at hv; subst hv; exact ⟨h2, h1⟩
    | succ m =>
      have := h6 m v (by simpa using hv)
      rwa [show k + 1 + m = k + (m + 1) by omega] at this

theorem DRL_of_vals {J : Addr → Prop} {w : World} {ad : Addr} {cs : List D} {us : List Value} (h : DRs J w cs us) (hc : ∀ (m : Nat) (u : Value), us[m]? = some u → w.cell? (ad.add m) = some u ∧ J (ad.add m)) : DRL J w ad 0 cs := by
  refine DRL_mk fun i x hx => ?_
  obtain ⟨v, hv, hr⟩ := DRs_get h i x hx
  obtain ⟨h1, h2⟩ := hc i v hv
  rw [Nat.zero_add]
  exact ⟨h2, v, h1, hr⟩

theorem VRL_toT {G : Gh} {E : List Nat} {w : World} : ∀ {xs : List D} {vs : List Value}, DRs (Im G) w xs vs → VRL G E w (xs.map D.toT) vs
  | [], [], _ => by unfold VRL; trivial
  | x :: xs, v :: vs, h => by simp only [List.map_cons]; unfold VRL; exact ⟨VR_toT h.1, VRL_toT h.2⟩
  | [], _ :: _, h => h.elim
  | _ :: _, [], h => h.elim

theorem DRs_toDs {G : Gh} {E : List Nat} {w : World} : ∀ {ts : List T} {vs : List Value} {xs : List D}, VRL G E w ts vs → T.toDs ts = some xs → DRs (Im G) w xs vs
  | [], [], xs, _, h => by simp [T.toDs] at h; subst h; trivial
  | t :: ts, v :: vs, xs, h, hx => by
    unfold VRL at h
    simp only [T.toDs] at hx
    split at hx
    · rename_i x xs' h1 h2
      simp at hx; subst hx
      exact ⟨DR_toD h.1 h1, DRs_toDs h.2 h2⟩
    · simp at hx
  | [], _ :: _, _, h, _ => by unfold VRL at h; exact h.elim
  | _ :: _, [], _, h, _ => by unfold VRL at h; exact h.elim

/-! ### pieces -/
theorem pieceL_some {α : Type} {cs ds : List α} {off n : Nat} (h : pieceL cs off n = some ds) : off + n ≤ cs.length ∧ ds = (cs.drop off).take n ∧ ds.length = n := by
  unfold pieceL at h
  split at h
  · simp at h; subst h; exact ⟨by assumption, rfl, by simp; omega⟩
  · simp at h
theorem pieceL_get {α : Type} {cs ds : List α} {off n i : Nat} (h : pieceL cs off n = some ds) (hi : i < n) : ds[i]? = cs[off + i]? := by
  obtain ⟨_, rfl, _⟩ := pieceL_some h
  simp [List.getElem?_drop, hi]

theorem VR_ofCells {G : Gh} {E : List Nat} {w : World} {b : Bool} {ts : List T} {t : T} {vs : List Value} (h : ofCells b ts = some t) (hv : VRL G E w ts vs) :
    (b = true ∧ VR G E w t (.agg vs.toArray)) ∨ (b = false ∧ ∃ v, vs = [v] ∧ VR G E w t v) := by
  unfold ofCells at h
  split at h
  · rename_i hb; simp at h; subst h; exact .inl ⟨hb, by unfold VR; exact ⟨vs.toArray, rfl, hv⟩⟩
  · rename_i hb
    split at h
    · simp at h; subst h
      match vs, hv with
      | [v], hv => unfold VRL at hv; exact .inr ⟨by simpa using hb, v, rfl, hv.1⟩
      | [], hv => unfold VRL at hv; exact hv.elim
      | _ :: _ :: _, hv => unfold VRL VRL at hv; exact hv.2.elim
    · simp at h

/-! ### load -/
theorem run_loadVar {P : Program} {t : TypeId} {i : TyI} (h : tyOf P t = some i) {w : World} {a : Addr} {vs : List Value} (hl : vs.length = i.size) (hc : ∀ (j : Nat) (v : Value), vs[j]? = some v → w.cell? (a.add j) = some v) :
    (isAggD i.desc = true → (loadVar t a).run P w = .ok (.agg vs.toArray) w) ∧ (isAggD i.desc = false → ∀ v, vs = [v] → (loadVar t a).run P w = .ok v w) := by
  constructor
  · intro hb
    have h1 := run_loadCells_list (P := P) w a vs hc
    simp only [loadVar, Sem.run_bind, ty_isAgg h, Result.andThen_ok, hb, if_true, ty_size h, ← hl, h1]
    rfl
  · rintro hb v rfl
    have h1 := hc 0 v (by simp)
    have h2 : a.add 0 = a := by simp [Addr.add]
    rw [h2] at h1
    simp only [loadVar, Sem.run_bind, ty_isAgg h, Result.andThen_ok, hb]
    simp [load, Sem.run, h1]

theorem load_same {C : Cfg} {N : Nat} {fr : Fr} {a : Act} {st : St} {G : Gh} {w0 w : World} {t : TypeId} {x : Operand} {r : T} (hf : FR N G st.E w fr a) (hs : SR st G w0 w) (h : loadOp C fr st.H t x = some r) :
    ∃ v, (Instr.loadAt t (a.eval x)).run C.P w = .ok v w ∧ VR G st.E w r v := by
  unfold loadOp at h
  split at h
  · rename_i i id off hi hx
    have hv := VR_opd hf hx
    unfold VR at hv
    obtain ⟨g, hg, hv⟩ := hv
    obtain ⟨_, _, b, hb, hR⟩ := hs.box id g hg
    split at h
    · rename_i cs hcs
      rw [hb] at hcs; injection hcs with hcs; subst hcs
      obtain ⟨arr, e, fz, h1, h2, h3, h4⟩ := hR
      cases hp : pieceL cs off i.size with
      | none => simp [hp] at h
      | some ts =>
        simp [hp] at h
        obtain ⟨p1, _, p3⟩ := pieceL_some hp
        have hvs : VRL G st.E w ts ((arr.toList.drop off).take i.size) := by
          refine VRL_mk (by simp; omega) fun j t' v hj hv => ?_
          have hjl : j < i.size := by have := (List.getElem?_eq_some_iff.1 hj).1; omega
          rw [pieceL_get hp hjl] at hj
          obtain ⟨_, u, hu, hR⟩ := h4 _ _ hj
          simp [List.getElem?_drop, hjl] at hv
          rw [hu] at hv; injection hv with hv; subst hv
          exact hR
        have hlen : ((arr.toList.drop off).take i.size).length = i.size := by simp; omega
        have hcell : ∀ (j : Nat) (v : Value), ((arr.toList.drop off).take i.size)[j]? = some v → w.cell? ((⟨g, off, none⟩ : Addr).add j) = some v := by
          intro j v hj
          rw [Addr.add_none, cell_of_block h1]
          have hjl : j < i.size := by have := (List.getElem?_eq_some_iff.1 hj).1; omega
          simpa [List.getElem?_take, List.getElem?_drop, hjl] using hj
        have hl := run_loadVar hi hlen hcell
        rcases VR_ofCells h hvs with ⟨hb, hr⟩ | ⟨hb, v, hv1, hr⟩
        · exact ⟨_, by simp [Instr.loadAt, hv, Instr.sureAddr, hl.1 hb], hr⟩
        · exact ⟨_, by simp [Instr.loadAt, hv, Instr.sureAddr, hl.2 hb v hv1], hr⟩
    · simp at h
  · rename_i i cs j hi hx
    have hv := VR_opd hf hx
    unfold VR at hv
    obtain ⟨ad, hv, hD⟩ := hv
    cases hp : pieceL cs j i.size with
    | none => simp [hp] at h
    | some ds =>
      simp [hp] at h
      obtain ⟨p1, _, p3⟩ := pieceL_some hp
      have hD2 : DRL (Im G) w (ad.add j) 0 ds := by
        refine DRL_mk fun m x hm => ?_
        have hml : m < i.size := by have := (List.getElem?_eq_some_iff.1 hm).1; omega
        rw [pieceL_get hp hml] at hm
        have := DRL_get hD (j + m) x hm
        rw [Nat.zero_add] at this
        rw [Nat.zero_add, Addr.add_add]
        exact this
      obtain ⟨us, hu1, hu2⟩ := DRL_vals hD2
      have hlen : us.length = i.size := by rw [DRs_length hu1, p3]
      have hcell : ∀ (m : Nat) (v : Value), us[m]? = some v → w.cell? ((ad.add j).add m) = some v := fun m v hm => by
        have := (hu2 m v hm).1
        rwa [Nat.zero_add] at this
      have hl := run_loadVar hi hlen hcell
      rcases VR_ofCells h (VRL_toT hu1) with ⟨hb, hr⟩ | ⟨hb, v, hv1, hr⟩
      · exact ⟨_, by simp [Instr.loadAt, hv, Instr.sureAddr, hl.1 hb], hr⟩
      · exact ⟨_, by simp [Instr.loadAt, hv, Instr.sureAddr, hl.2 hb v hv1], hr⟩
  · simp at h

theorem load_ok {C : Cfg} {N : Nat} {fr : Fr} {a : Act} {st : St} {G : Gh} {w0 w : World} {t : TypeId} {x : Operand} {r : T} (hf : FR N G st.E w fr a) (hs : SR st G w0 w) (h : loadOp C fr st.H t x = some r) :
    KO C (Instr.loadAt t (a.eval x)) G st.E w r :=
  let ⟨_, h1, h2⟩ := load_same hf hs h
  KO.same h1 h2

/-! ### addresses -/
theorem fieldA_ok {C : Cfg} {N : Nat} {fr : Fr} {a : Act} {G : Gh} {E : List Nat} {w : World} {s : TypeId} {x : Operand} {f : Nat} {r : T} (hf : FR N G E w fr a) (h : fieldA C fr s x f = some r) :
    KO C (Instr.fieldAt s (a.eval x) f) G E w r := by
  unfold fieldA at h
  split at h
  · rename_i fields hs
    obtain ⟨si, hsi, hsd⟩ := tyD_some hs
    have hu := ty_under hsi
    rw [hsd] at hu
    split at h
    · rename_i fd hfd
      split at h
      · rename_i i hi
        split at h
        · simp at h
        · rename_i hz
          have hsz : ∀ w, (sizeOf fd.type).run C.P w = .ok i.size w := fun w => ty_size hi w
          split at h
          · rename_i id off hx
            simp at h; subst h
            have hv := VR_opd hf hx
            unfold VR at hv
            obtain ⟨g, hg, hv⟩ := hv
            refine KO.same (v := .pointer (some ⟨g, off + fd.offset, none⟩)) ?_ (by unfold VR; exact ⟨g, hg, rfl⟩)
            simp [Instr.fieldAt, hu, hfd, hv, Instr.sureAddr, fieldPlace, hsz, hz, Addr.add_none]
          · rename_i cs j hx
            simp at h; subst h
            have hv := VR_opd hf hx
            unfold VR at hv
            obtain ⟨ad, hv, hD⟩ := hv
            refine KO.same (v := .pointer (some (ad.add (j + fd.offset)))) ?_ (by unfold VR; exact ⟨ad, rfl, hD⟩)
            simp [Instr.fieldAt, hu, hfd, hv, Instr.sureAddr, fieldPlace, hsz, hz, Addr.add_add]
          · simp at h
      · simp at h
    · simp at h
  · simp at h

theorem index_ok {C : Cfg} {N : Nat} {fr : Fr} {a : Act} {G : Gh} {E : List Nat} {w : World} {t : TypeId} {x ix : Operand} {r : T} (hf : FR N G E w fr a) (h : indexOp C fr t x ix = some r) :
    KO C (Instr.indexAt t (a.eval x) (a.eval ix)) G E w r := by
  unfold indexOp at h
  split at h
  · rename_i e n cs o i ht hx hix
    obtain ⟨ti, hti, htd⟩ := tyD_some ht
    have hu := ty_under hti
    rw [htd] at hu
    obtain ⟨k, hk⟩ := eval_intV hf hix
    split at h
    · rename_i ei hei
      split at h
      · rename_i hb
        simp at h; subst h
        have hv := VR_opd hf hx
        unfold VR at hv
        rcases hv with ⟨hv, _⟩ | ⟨_, ad, cap, hv, _, hD, _⟩
        · cases hv
        · refine KO.same (v := .pointer (some (ad.add (i.toNat * ei.size)))) ?_ (by unfold VR; exact ⟨ad, rfl, hD⟩)
          have hsz : ∀ w, (sizeOf e).run C.P w = .ok ei.size w := fun w => ty_size hei w
          simp [Instr.indexAt, hk, asIntOf, hu, hv, hb, hsz]
      · simp at h
    · simp at h
  · rename_i e id off n cap i ht hx hix
    obtain ⟨ti, hti, htd⟩ := tyD_some ht
    have hu := ty_under hti
    rw [htd] at hu
    obtain ⟨k, hk⟩ := eval_intV hf hix
    split at h
    · rename_i ei hei
      split at h
      · rename_i hb
        simp at h; subst h
        have hv := VR_opd hf hx
        unfold VR at hv
        obtain ⟨g, c, hg, hv, _⟩ := hv
        refine KO.same (v := .pointer (some ⟨g, off + i.toNat * ei.size, none⟩)) ?_ (by unfold VR; exact ⟨g, hg, rfl⟩)
        have hsz : ∀ w, (sizeOf e).run C.P w = .ok ei.size w := fun w => ty_size hei w
        simp [Instr.indexAt, hk, asIntOf, hu, hv, hb, hsz, Addr.add_none]
      · simp at h
    · simp at h
  · rename_i n e id off i ht hx hix
    obtain ⟨ti, hti, htd⟩ := tyD_some ht
    have hu := ty_under hti
    rw [htd] at hu
    obtain ⟨k, hk⟩ := eval_intV hf hix
    split at h
    · rename_i ei hei
      split at h
      · rename_i hb
        simp at h; subst h
        have hv := VR_opd hf hx
        unfold VR at hv
        obtain ⟨g, hg, hv⟩ := hv
        refine KO.same (v := .pointer (some ⟨g, off + i.toNat * ei.size, none⟩)) ?_ (by unfold VR; exact ⟨g, hg, rfl⟩)
        have hsz : ∀ w, (sizeOf e).run C.P w = .ok ei.size w := fun w => ty_size hei w
        simp [Instr.indexAt, hk, asIntOf, hu, hv, hb, hsz, Addr.add_none, Instr.sureAddr]
      · simp at h
    · simp at h
  · simp at h

end Go.Tm
end
section
set_option linter.unusedVariables false
set_option linter.unusedSimpArgs false
namespace Go.Tm
open Go Go.RowKit

/-! ### cuts -/
def OptInt : Option Value → Option Int → Prop
  | none, none => True
  | some v, some n => ∃ k, v = .int k n
  | _, _ => False

theorem intO_ok {N : Nat} {fr : Fr} {a : Act} {G : Gh} {E : List Nat} {w : World} {x : Option Operand} {n : Option Int} (hf : FR N G E w fr a) (h : intO fr x = some n) : OptInt (x.map a.eval) n := by
  unfold intO at h
  split at h
  · simp at h; subst h; trivial
  · split at h
    · rename_i m hm
      simp at h; subst h
      exact eval_intV hf hm
    · simp at h

theorem run_bound {P : Program} {w : World} {k : IntKind} {i : Int} {y : Nat} (c : BoundsCode) (h0 : 0 ≤ i) (h1 : i ≤ y) : (Instr.sliceBound (.int k i) y c).run P w = .ok i.toNat w := by
  simp [Instr.sliceBound, asIntOf, h0, h1]

theorem run_bounds {P : Program} {w : World} {isS : Bool} {n cap : Nat} {lo hi mx : Option Value} {l' h' m' : Option Int} {l h : Nat} {m : Option Nat} (hl : OptInt lo l') (hh : OptInt hi h') (hm : OptInt mx m')
    (hc : n ≤ cap) (hb : cutB n l' h' m' = some (l, h, m)) : (Instr.sliceBounds isS n cap lo hi mx).run P w = .ok (l, h, m.getD cap) w ∧ l ≤ h ∧ h ≤ n ∧ (∀ x, m = some x → h ≤ x ∧ x ≤ n) := by
  unfold cutB at hb
  split at hb
  · split at hb
    · rename_i hcnd
      simp at hb
      obtain ⟨rfl, rfl, rfl⟩ := hb
      cases mx with
      | some v => exact hm.elim
      | none =>
        refine ⟨?_, by omega, by omega, fun x hx => by cases hx⟩
        cases hi with
        | none =>
          cases h' with
          | some v => exact hh.elim
          | none =>
            cases lo with
            | none =>
              cases l' with
              | some v => exact hl.elim
              | none => simp [Instr.sliceBounds]
            | some v =>
              cases l' with
              | none => exact hl.elim
              | some l' =>
                obtain ⟨k, rfl⟩ := hl
                simp at hcnd
                simp [Instr.sliceBounds, run_bound _ hcnd.1 hcnd.2]
        | some v =>
          cases h' with
          | none => exact hh.elim
          | some h' =>
            obtain ⟨k, rfl⟩ := hh
            simp at hcnd
            have e1 : ∀ c, (Instr.sliceBound (.int k h') cap c).run P w = .ok h'.toNat w := fun c => run_bound c (by omega) (by omega)
            cases lo with
            | none =>
              cases l' with
              | some v => exact hl.elim
              | none => cases isS <;> simp [Instr.sliceBounds, e1]
            | some v =>
              cases l' with
              | none => exact hl.elim
              | some l' =>
                obtain ⟨k2, rfl⟩ := hl
                simp at hcnd
                have e2 : ∀ c, (Instr.sliceBound (.int k2 l') h'.toNat c).run P w = .ok l'.toNat w := fun c => run_bound c (by omega) (by omega)
                cases isS <;> simp [Instr.sliceBounds, e1, e2]
    · simp at hb
  · rename_i m0 h0
    split at hb
    · rename_i hcnd
      simp at hb
      obtain ⟨rfl, rfl, rfl⟩ := hb
      cases mx with
      | none => exact hm.elim
      | some v =>
        obtain ⟨k, rfl⟩ := hm
        cases hi with
        | none => exact hh.elim
        | some v =>
          obtain ⟨k1, rfl⟩ := hh
          refine ⟨?_, by omega, by omega, fun x hx => by simp at hx; omega⟩
          have e0 : ∀ c, (Instr.sliceBound (.int k m0) cap c).run P w = .ok m0.toNat w := fun c => run_bound c (by omega) (by omega)
          have e1 : ∀ c, (Instr.sliceBound (.int k1 h0) m0.toNat c).run P w = .ok h0.toNat w := fun c => run_bound c (by omega) (by omega)
          cases lo with
          | none =>
            cases l' with
            | some v => exact hl.elim
            | none => cases isS <;> simp [Instr.sliceBounds, e0, e1]
          | some v =>
            cases l' with
            | none => exact hl.elim
            | some l' =>
              obtain ⟨k2, rfl⟩ := hl
              simp at hcnd
              have e2 : ∀ c, (Instr.sliceBound (.int k2 l') h0.toNat c).run P w = .ok l'.toNat w := fun c => run_bound c (by omega) (by omega)
              cases isS <;> simp [Instr.sliceBounds, e0, e1, e2]
    · simp at hb
  · simp at hb

theorem OwR_cut {G : Gh} {E : List Nat} {ad ad' : Addr} {n cap l h len len' : Nat} {m : Option Nat} {ow : Ow} (hO : OwR G E ad n cap len ow) (h1 : l ≤ h) (h2 : h ≤ n) (h3 : ∀ x, m = some x → h ≤ x ∧ x ≤ n) (had : l = 0 → ad' = ad) (hll : l = 0 → h = n → len' = len) :
    OwR G E ad' (h - l) (m.getD cap - l) len' (cutO ow n l h m) := by
  unfold cutO
  cases m with
  | some y =>
    have := h3 y rfl
    simp only [Option.getD_some]
    split
    · rename_i e; show _ = _; omega
    · trivial
  | none =>
    simp only [Option.getD_none]
    cases ow with
    | ro => dsimp only; split <;> trivial
    | ex =>
      have hO : cap = n := hO
      dsimp only
      split
      · show _ = _; omega
      · trivial
    | lit =>
      have hO : cap = n ∧ _ := hO
      dsimp only
      split
      · show _ = _; omega
      · trivial
    | tok k =>
      dsimp only
      split
      · rename_i hc
        obtain ⟨rfl, rfl⟩ := hc
        rw [had rfl, hll rfl rfl]
        simpa using hO
      · trivial

theorem slice_ok {C : Cfg} {N : Nat} {fr : Fr} {a : Act} {G : Gh} {E : List Nat} {w : World} {o : Oper} {t : TypeId} {x : Operand} {lo hi mx : Option Operand} {r : T} (hf : FR N G E w fr a) (h : sliceOp C o fr t x lo hi mx = some r) :
    KO C (Instr.sliceAt t (a.eval x) (lo.map a.eval) (hi.map a.eval) (mx.map a.eval)) G E w r := by
  unfold sliceOp at h
  split at h
  · rename_i s lo' hi' hx hlo hhi hmx
    split at h
    · rename_i l h' m ht hb
      simp at h; subst h
      obtain ⟨ti, hti, htd⟩ := tyD_some ht
      have hu := ty_under hti
      rw [htd] at hu
      have hv := VR_opd hf hx
      unfold VR at hv
      have hm := intO_ok hf hmx
      have hmn : mx.map a.eval = none := by cases mx <;> simp_all [OptInt]
      have hr := run_bounds (P := C.P) (w := w) (isS := false) (intO_ok hf hlo) (intO_ok hf hhi) hm (Nat.le_refl s.size) hb
      refine KO.same (v := .string (s.extract l h')) ?_ (by unfold VR; exact ⟨rfl, rfl⟩)
      rw [hmn] at hr ⊢
      simp [Instr.sliceAt, Instr.slice, hu, hv.1, hr.1]
    · simp at h
  · rename_i nl n cs ow lo' hi' mx' hx hlo hhi hmx
    split at h
    · rename_i e l h' m ht hb
      obtain ⟨ti, hti, htd⟩ := tyD_some ht
      have hu := ty_under hti
      rw [htd] at hu
      split at h
      · rename_i ei hei
        split at h
        · rename_i hlen
          simp at h; subst h
          have hsz : ∀ w, (sizeOf e).run C.P w = .ok ei.size w := fun w => ty_size hei w
          have hv := VR_opd hf hx
          unfold VR at hv
          rcases hv with ⟨rfl, rfl, rfl, hv⟩ | ⟨rfl, ad, cap, hv, hcap, hD, hO⟩
          · have hr := run_bounds (P := C.P) (w := w) (isS := true) (intO_ok hf hlo) (intO_ok hf hhi) (intO_ok hf hmx) (Nat.le_refl 0) hb
            obtain ⟨hr, h1, h2, h3⟩ := hr
            obtain rfl : h' = 0 := by omega
            obtain rfl : l = 0 := by omega
            have hm0 : m.getD 0 = 0 := by
              cases m with
              | none => rfl
              | some y => have := h3 y rfl; simp; omega
            refine KO.same (v := .slice none 0 0) ?_ (by unfold VR; exact .inl ⟨rfl, rfl, by simp, rfl⟩)
            simp [Instr.sliceAt, Instr.slice, hu, hv, hr, hsz, hm0]
          · have hr := run_bounds (P := C.P) (w := w) (isS := true) (intO_ok hf hlo) (intO_ok hf hhi) (intO_ok hf hmx) hcap hb
            obtain ⟨hr, h1, h2, h3⟩ := hr
            have hM : h' ≤ m.getD cap := by
              cases m with
              | none => simp; omega
              | some y => have := h3 y rfl; simp; omega
            refine KO.same (v := .slice (some (if m.getD cap = l then ad else ad.add (l * ei.size))) (h' - l) (m.getD cap - l)) ?_ ?_
            · simp [Instr.sliceAt, Instr.slice, hu, hv, hr, hsz]
              split <;> rfl
            · unfold VR
              refine .inr ⟨rfl, _, _, rfl, by omega, ?_, ?_⟩
              · refine DRL_mk fun i y hy => ?_
                have hi : i < (h' - l) * ei.size := by
                  have := (List.getElem?_eq_some_iff.1 hy).1
                  simp at this
                  omega
                have hne : ¬ m.getD cap = l := by
                  intro e1
                  have : h' - l = 0 := by omega
                  rw [this] at hi
                  simp at hi
                rw [if_neg hne]
                simp [List.getElem?_take, List.getElem?_drop, hi] at hy
                have := DRL_get hD _ _ hy
                simp only [Nat.zero_add] at this ⊢
                rwa [Addr.add_add]
              · refine OwR_cut hO h1 h2 h3 (fun e0 => ?_) (fun e0 e1 => ?_)
                · subst e0
                  split
                  · rfl
                  · simp [Addr.add]
                · subst e0 e1
                  simp
                  omega
        · simp at h
      · simp at h
    · simp at h
  · rename_i id off n cap lo' hi' hx hlo hhi hmx
    split at h
    · rename_i e l h' m ht hb
      obtain ⟨ti, hti, htd⟩ := tyD_some ht
      have hu := ty_under hti
      rw [htd] at hu
      split at h
      · rename_i ei hei
        have hsz : ∀ w, (sizeOf e).run C.P w = .ok ei.size w := fun w => ty_size hei w
        split at h
        · rename_i hnc
          have hv := VR_opd hf hx
          unfold VR at hv
          obtain ⟨g, c, hg, hv, hcc⟩ := hv
          have hm := intO_ok hf hmx
          have hmn : mx.map a.eval = none := by cases mx <;> simp_all [OptInt]
          have hr := run_bounds (P := C.P) (w := w) (isS := true) (intO_ok hf hlo) (intO_ok hf hhi) hm (show n ≤ c by omega) hb
          obtain ⟨hr, h1, h2, h3⟩ := hr
          have hmm : m = none := by unfold cutB at hb; simp at hb; exact hb.2.2.2.symm
          subst hmm
          rw [hmn] at hr
          simp only [Option.getD_none] at hr
          split at h
          · rename_i hlh
            simp at h; subst h
            have hne : ¬ c = l := by omega
            refine KO.same (v := .slice (some ⟨g, off + l * ei.size, none⟩) (h' - l) (c - l)) ?_ (by unfold VR; exact ⟨g, _, hg, rfl, by omega⟩)
            rw [hmn]
            simp [Instr.sliceAt, Instr.slice, hu, hv, hr, hsz, hne, Addr.add_none]
          · simp at h; subst h
            obtain rfl : h' = l := by omega
            refine KO.same (v := .slice (some (if c = h' then ⟨g, off, none⟩ else (⟨g, off, none⟩ : Addr).add (h' * ei.size))) 0 (c - h')) ?_ ?_
            · rw [hmn]
              simp [Instr.sliceAt, Instr.slice, hu, hv, hr, hsz]
              split <;> rfl
            · unfold VR
              exact .inr ⟨rfl, _, _, rfl, by omega, by unfold DRL; trivial, trivial⟩
        · simp at h
      · simp at h
    · simp at h
  · simp at h

/-! ### lengths -/
theorem len_ok {C : Cfg} {N : Nat} {fr : Fr} {a : Act} {st : St} {G : Gh} {w0 w : World} {t ty : TypeId} {x : Operand} {r : T} (hf : FR N G st.E w fr a) (hs : SR st G w0 w) (h : lenOp C fr st.H t x = some r) :
    KO C (Builtin.len_ #[t] ty #[a.eval x]) G st.E w r := by
  unfold lenOp at h
  split at h
  · rename_i s ht hx
    obtain ⟨ti, hti, htd⟩ := tyD_some ht
    have hu := ty_under hti
    rw [htd] at hu
    have hv := VR_opd hf hx
    unfold VR at hv
    simp at h; subst h
    refine KO.same (v := .int .i64 s.size) ?_ (by unfold VR; exact ⟨rfl, rfl⟩)
    simp [Builtin.len_, hu, hv.1, goInt]
  · rename_i e nl n cs o ht hx
    obtain ⟨ti, hti, htd⟩ := tyD_some ht
    have hu := ty_under hti
    rw [htd] at hu
    have hv := VR_opd hf hx
    unfold VR at hv
    simp at h; subst h
    refine KO.same (v := .int .i64 n) ?_ (by unfold VR; exact ⟨rfl, rfl⟩)
    rcases hv with ⟨_, rfl, _, hv⟩ | ⟨_, ad, cap, hv, _⟩ <;> simp [Builtin.len_, hu, hv, goInt]
  · rename_i e id off n cap ht hx
    obtain ⟨ti, hti, htd⟩ := tyD_some ht
    have hu := ty_under hti
    rw [htd] at hu
    have hv := VR_opd hf hx
    unfold VR at hv
    simp at h; subst h
    obtain ⟨g, c, _, hv, _⟩ := hv
    refine KO.same (v := .int .i64 n) ?_ (by unfold VR; exact ⟨rfl, rfl⟩)
    simp [Builtin.len_, hu, hv, goInt]
  · rename_i k e id ht hx
    obtain ⟨ti, hti, htd⟩ := tyD_some ht
    have hu := ty_under hti
    rw [htd] at hu
    have hv := VR_opd hf hx
    unfold VR at hv
    obtain ⟨g, hg, hv⟩ := hv
    obtain ⟨_, _, b, hb, hR⟩ := hs.box id g hg
    split at h
    · rename_i es hes
      rw [hb] at hes; injection hes with hes; subst hes
      obtain ⟨arr, clock, h1, h2, _⟩ := hR
      simp at h; subst h
      refine KO.same (v := .int .i64 es.length) ?_ (by unfold VR; exact ⟨rfl, rfl⟩)
      simp [Builtin.len_, hu, hv, getObj, Sem.run, h1, goInt, h2]
    · simp at h
  · simp at h

/-! ### fields and parts -/
theorem run_part {P : Program} {t : TypeId} {i : TyI} (h : tyOf P t = some i) {w : World} {arr : Array Value} {off : Nat} {vs : List Value} (hp : pieceL arr.toList off i.size = some vs) :
    (isAggD i.desc = true → (part t arr off).run P w = .ok (.agg vs.toArray) w) ∧ (isAggD i.desc = false → ∀ v, vs = [v] → (part t arr off).run P w = .ok v w) := by
  obtain ⟨p1, p2, p3⟩ := pieceL_some hp
  constructor
  · intro hb
    simp only [part, Sem.run_bind, ty_isAgg h, Result.andThen_ok, hb, if_true, ty_size h]
    simp only [Sem.run_pure]
    congr 2
    apply Array.ext'
    rw [Array.toList_extract, p2]
    simp [List.extract_eq_take_drop]
  · rintro hb v rfl
    have h1 : arr[off]? = some v := by
      have := pieceL_get (i := 0) hp (by simp at p3; omega)
      simpa using this.symm
    simp only [part, Sem.run_bind, ty_isAgg h, Result.andThen_ok, hb]
    simp [h1]

theorem piece_vals {G : Gh} {E : List Nat} {w : World} {ts ps : List T} {vs : List Value} {off n : Nat} (h : VRL G E w ts vs) (hp : pieceL ts off n = some ps) : ∃ us, pieceL vs off n = some us ∧ VRL G E w ps us := by
  obtain ⟨p1, p2, p3⟩ := pieceL_some hp
  have hl := VRL_length h
  refine ⟨(vs.drop off).take n, by unfold pieceL; rw [if_pos (by omega)], VRL_mk (by simp; omega) fun i t v ht hv => ?_⟩
  have hi : i < n := by have := (List.getElem?_eq_some_iff.1 ht).1; omega
  rw [pieceL_get hp hi] at ht
  obtain ⟨u, hu, hr⟩ := VRL_get h _ _ ht
  simp [List.getElem?_take, List.getElem?_drop, hi] at hv
  rw [hu] at hv; injection hv with hv; subst hv
  exact hr

theorem fieldV_ok {C : Cfg} {N : Nat} {fr : Fr} {a : Act} {G : Gh} {E : List Nat} {w : World} {t : TypeId} {x : Operand} {f : Nat} {r : T} (hf : FR N G E w fr a) (h : fieldV C fr t x f = some r) :
    KO C (Instr.field t (a.eval x) f) G E w r := by
  unfold fieldV at h
  split at h
  · rename_i fields cs ht hx
    obtain ⟨ti, hti, htd⟩ := tyD_some ht
    have hu := ty_under hti
    rw [htd] at hu
    split at h
    · rename_i fd hfd
      split at h
      · rename_i i hi
        have hv := VR_opd hf hx
        unfold VR at hv
        obtain ⟨vs, hv, hR⟩ := hv
        cases hp : pieceL cs fd.offset i.size with
        | none => simp [hp] at h
        | some ts =>
          simp [hp] at h
          obtain ⟨us, hu1, hu2⟩ := piece_vals hR hp
          have hl := run_part hi (w := w) hu1
          rcases VR_ofCells h hu2 with ⟨hb, hr⟩ | ⟨hb, v, hv1, hr⟩
          · exact KO.same (by simp [Instr.field, hu, hfd, hv, asAgg, hl.1 hb]) hr
          · exact KO.same (by simp [Instr.field, hu, hfd, hv, asAgg, hl.2 hb v hv1]) hr
      · simp at h
    · simp at h
  · simp at h

/-! ### against nil -/
theorem eq_of {C : Cfg} {w : World} {t : TypeId} {v1 v2 : Value} {x y : Operand} {r : Bool} (hg : ∀ op, eqGuard op t x y v1 v2 = pure ()) (hb1 : binOp .eql t v1 v2 = (do pure (.bool (← Op.equal t v1 v2)))) (hb2 : binOp .neq t v1 v2 = (do pure (.bool (!(← Op.equal t v1 v2)))))
    (he : (Op.equal t v1 v2).run C.P w = .ok r w) :
    (do eqGuard .eql t x y v1 v2; binOp .eql t v1 v2 : Sem Value).run C.P w = .ok (.bool r) w ∧ (do eqGuard .neq t x y v1 v2; binOp .neq t v1 v2 : Sem Value).run C.P w = .ok (.bool (!r)) w := by
  constructor
  · rw [hg, hb1]
    simp only [Sem.run_bind, Sem.run_pure, Result.andThen_ok, he]
  · rw [hg, hb2]
    simp only [Sem.run_bind, Sem.run_pure, Result.andThen_ok, he]

theorem equal_step (t : TypeId) (x y : Value) : Op.equal t x y = Op.equalIn (9999 + 1) t x y := rfl

theorem nilEq_ok {C : Cfg} {G : Gh} {E : List Nat} {w : World} {t : TypeId} {u : TypeDesc} {a b : T} {v1 v2 : Value} {x y : Operand} {r : Bool} (ht : tyD C t = some u) (h1 : VR G E w a v1) (h2 : VR G E w b v2) (h : nilEq u a b = some r) :
    (do eqGuard .eql t x y v1 v2; binOp .eql t v1 v2 : Sem Value).run C.P w = .ok (.bool r) w ∧ (do eqGuard .neq t x y v1 v2; binOp .neq t v1 v2 : Sem Value).run C.P w = .ok (.bool (!r)) w := by
  obtain ⟨ti, hti, htd⟩ := tyD_some ht
  have hu := ty_under hti
  rw [htd] at hu
  unfold nilEq at h
  split at h
  · unfold VR at h1 h2
    simp at h; subst h
    rcases h1 with ⟨_, _, _, rfl⟩ | ⟨h1, _⟩
    · rcases h2 with ⟨rfl, _, _, rfl⟩ | ⟨rfl, ad, cap, rfl, _⟩ <;>
        (refine eq_of (fun op => by cases op <;> rfl) rfl rfl ?_; rw [equal_step]; unfold Op.equalIn; simp only [Sem.run_bind, hu, Result.andThen_ok]; rfl)
    · cases h1
  · unfold VR at h1 h2
    simp at h; subst h
    rcases h1 with ⟨h1, _⟩ | ⟨_, ad, cap, rfl, _⟩
    · cases h1
    · rcases h2 with ⟨_, _, _, rfl⟩ | ⟨h2, _⟩
      · refine eq_of (fun op => by cases op <;> rfl) rfl rfl ?_; rw [equal_step]; unfold Op.equalIn; simp only [Sem.run_bind, hu, Result.andThen_ok]; rfl
      · cases h2
  · unfold VR at h1 h2
    simp at h; subst h
    obtain ⟨g, _, rfl⟩ := h1
    obtain ⟨rfl, _⟩ := h2
    refine eq_of (fun op => by cases op <;> rfl) rfl rfl ?_; rw [equal_step]; unfold Op.equalIn; simp only [Sem.run_bind, hu, Result.andThen_ok]; rfl
  · unfold VR at h1 h2
    simp at h; subst h
    obtain ⟨g, _, rfl⟩ := h2
    obtain ⟨rfl, _⟩ := h1
    refine eq_of (fun op => by cases op <;> rfl) rfl rfl ?_; rw [equal_step]; unfold Op.equalIn; simp only [Sem.run_bind, hu, Result.andThen_ok]; rfl
  · unfold VR at h1 h2
    simp at h; subst h
    obtain ⟨fs, cs, rfl, _⟩ := h1
    obtain ⟨rfl, _⟩ := h2
    refine eq_of (fun op => by cases op <;> rfl) rfl rfl ?_; rw [equal_step]; unfold Op.equalIn; simp only [Sem.run_bind, hu, Result.andThen_ok]; rfl
  · unfold VR at h1 h2
    simp at h; subst h
    obtain ⟨g, _, rfl⟩ := h1
    obtain ⟨rfl, _⟩ := h2
    refine eq_of (fun op => by cases op <;> rfl) rfl rfl ?_; rw [equal_step]; unfold Op.equalIn; simp only [Sem.run_bind, hu, Result.andThen_ok]; rfl
  · simp at h

end Go.Tm
end
section
set_option linter.unusedVariables false
set_option linter.unusedSimpArgs false
namespace Go.Tm
open Go Go.RowKit

/-! ### literals -/
theorem putAt_some {α : Type} {cs xs ds : List α} {off : Nat} (h : putAt cs off xs = some ds) : off + xs.length ≤ cs.length ∧ ds = cs.take off ++ xs ++ cs.drop (off + xs.length) ∧ ds.length = cs.length := by
  unfold putAt at h
  split at h
  · simp at h; subst h; exact ⟨by assumption, by simp, by simp; omega⟩
  · simp at h

theorem putAt_get {α : Type} {cs xs ds : List α} {off i : Nat} (h : putAt cs off xs = some ds) : ds[i]? = if off ≤ i ∧ i < off + xs.length then xs[i - off]? else cs[i]? := by
  obtain ⟨h1, rfl, h3⟩ := putAt_some h
  by_cases hi : i < off
  · rw [if_neg (by omega), List.append_assoc, List.getElem?_append_left (by simp; omega), List.getElem?_take]
    simp [hi]
  · by_cases hi2 : i < off + xs.length
    · rw [if_pos (by omega), List.append_assoc, List.getElem?_append_right (by simp; omega), List.getElem?_append_left (by simp; omega)]
      congr 1
      simp; omega
    · rw [if_neg (by omega), List.getElem?_append_right (by simp; omega), List.getElem?_drop]
      congr 1
      simp; omega

theorem putAt_VRL {G : Gh} {E : List Nat} {w : World} {cs xs ds : List T} {vs us : List Value} {off : Nat} (h : putAt cs off xs = some ds) (hc : VRL G E w cs vs) (hx : VRL G E w xs us) :
    VRL G E w ds (vs.take off ++ us ++ vs.drop (off + us.length)) := by
  obtain ⟨h1, h2, h3⟩ := putAt_some h
  have hl1 := VRL_length hc
  have hl2 := VRL_length hx
  have hp : putAt vs off us = some (vs.take off ++ us ++ vs.drop (off + us.length)) := by unfold putAt; rw [if_pos (by omega)]
  refine VRL_mk (by simp; omega) fun i t v ht hv => ?_
  rw [putAt_get h] at ht
  rw [putAt_get hp] at hv
  by_cases hi : off ≤ i ∧ i < off + xs.length
  · rw [if_pos hi] at ht
    rw [if_pos (by omega)] at hv
    obtain ⟨u, hu, hr⟩ := VRL_get hx _ _ ht
    rw [hu] at hv; injection hv with hv; subst hv
    exact hr
  · rw [if_neg hi] at ht
    rw [if_neg (by omega)] at hv
    obtain ⟨u, hu, hr⟩ := VRL_get hc _ _ ht
    rw [hu] at hv; injection hv with hv; subst hv
    exact hr

theorem foldl_put (off : Nat) : ∀ (vs : List Value) (k : Nat) (cells : Array Value), off + k + vs.length ≤ cells.size →
    ((vs.zipIdx k).foldl (fun cs (p : Value × Nat) => cs.setIfInBounds (off + p.2) p.1) cells).toList = cells.toList.take (off + k) ++ vs ++ cells.toList.drop (off + k + vs.length)
  | [], k, cells, _ => by simp
  | v :: vs, k, cells, h => by
    simp only [List.zipIdx_cons, List.foldl_cons]
    rw [foldl_put off vs (k + 1) _ (by simp at h ⊢; omega)]
    simp only [Array.toList_setIfInBounds]
    have := list_put cells.toList (off + k) v vs (by simp at h ⊢; omega)
    rw [show off + (k + 1) = off + k + 1 by omega, this]
    simp [Nat.add_assoc]

/-- The parts, tree by tree and value by value. -/
def Parts (G : Gh) (E : List Nat) (w : World) : List (Nat × T) → List (Nat × Value) → Prop
  | [], [] => True
  | (i, t) :: ps, (j, v) :: qs => i = j ∧ VR G E w t v ∧ Parts G E w ps qs
  | _, _ => False

theorem cells_VRL {G : Gh} {E : List Nat} {w : World} {t : T} {v : Value} (h : VR G E w t v) (h1 : t.cells.length = v.cells.size → True) : VRL G E w t.cells v.cells.toList ∨ t.cells = [t] := by
  cases t with
  | agg cs => unfold VR at h; obtain ⟨vs, rfl, hR⟩ := h; exact .inl hR
  | _ => exact .inr rfl

theorem VR_cells {G : Gh} {E : List Nat} {w : World} {t : T} {v : Value} (h : VR G E w t v) : VRL G E w t.cells v.cells.toList := by
  have one : ∀ t : T, VR G E w t v → v.oneCell' = true ∨ (∃ a, v = .tuple a) → VRL G E w [t] v.cells.toList := by
    intro t h hv
    have : v.cells = #[v] := by
      rcases hv with hv | ⟨a, rfl⟩
      · cases v <;> first | rfl | simp [Value.oneCell'] at hv
      · rfl
    rw [this]
    unfold VRL VRL
    exact ⟨h, trivial⟩
  cases t with
  | agg cs => unfold VR at h; obtain ⟨vs, rfl, hR⟩ := h; exact hR
  | tup cs => have h' := h; unfold VR at h; obtain ⟨vs, rfl, hR⟩ := h; exact one _ h' (.inr ⟨vs, rfl⟩)
  | el cs i => have h' := h; unfold VR at h; obtain ⟨ad, rfl, _⟩ := h; exact one _ h' (.inl rfl)
  | d u => exact one _ h (.inl (VR_one h rfl))
  | sl nl n cs o => exact one _ h (.inl (VR_one h rfl))
  | ptr id off => exact one _ h (.inl (VR_one h rfl))
  | loc id off n cap => exact one _ h (.inl (VR_one h rfl))
  | mapr id => exact one _ h (.inl (VR_one h rfl))
  | clo f a b => exact one _ h (.inl (VR_one h rfl))

theorem fill_ok {G : Gh} {E : List Nat} {w : World} {place : Nat → Option (Nat × Nat)} : ∀ {ps : List (Nat × T)} {qs : List (Nat × Value)} {cs ds : List T} {arr : Array Value}, Parts G E w ps qs → VRL G E w cs arr.toList → fillT place cs ps = some ds →
    ∃ arr', Instr.fill place arr qs = some arr' ∧ VRL G E w ds arr'.toList
  | [], [], cs, ds, arr, _, hc, h => by simp [fillT] at h; subst h; exact ⟨arr, rfl, hc⟩
  | (i, t) :: ps, (j, v) :: qs, cs, ds, arr, hp, hc, h => by
    obtain ⟨rfl, hv, hp⟩ := hp
    simp only [fillT] at h
    cases hpl : place i with
    | none => simp [hpl] at h
    | some os =>
      obtain ⟨off, size⟩ := os
      simp only [hpl] at h
      split at h
      · rename_i hsz
        cases hpa : putAt cs off t.cells with
        | none => simp [hpa] at h
        | some cs' =>
          simp only [hpa] at h
          obtain ⟨p1, p2, p3⟩ := putAt_some hpa
          have hl1 := VRL_length hc
          have hcv := VR_cells hv
          have hl2 := VRL_length hcv
          simp at hl1 hl2
          have hset : (v.cells.zipIdx.foldl (fun cs (x : Value × Nat) => match x with | (c, j) => cs.setIfInBounds (off + j) c) arr).toList = arr.toList.take off ++ v.cells.toList ++ arr.toList.drop (off + v.cells.toList.length) := by
            have := foldl_put off v.cells.toList 0 arr (by simp; omega)
            rw [← Array.foldl_toList]
            simpa using this
          have hR : VRL G E w cs' (v.cells.zipIdx.foldl (fun cs (x : Value × Nat) => match x with | (c, j) => cs.setIfInBounds (off + j) c) arr).toList := by
            rw [hset]
            exact putAt_VRL hpa hc hcv
          obtain ⟨arr', h1, h2⟩ := fill_ok hp hR h
          refine ⟨arr', ?_, h2⟩
          simp only [Instr.fill, hpl]
          rw [if_neg (by simp; omega)]
          exact h1
      · simp at h
  | [], _ :: _, _, _, _, h, _, _ => by simp [Parts] at h
  | _ :: _, [], _, _, _, h, _, _ => by simp [Parts] at h

theorem parts_ok {N : Nat} {fr : Fr} {a : Act} {G : Gh} {E : List Nat} {w : World} (hf : FR N G E w fr a) : ∀ {ps : List (Nat × Operand)} {ts : List (Nat × T)}, partsT fr ps = some ts → Parts G E w ts (ps.map fun p => (p.1, a.eval p.2))
  | [], ts, h => by simp [partsT] at h; subst h; trivial
  | (i, x) :: ps, ts, h => by
    simp only [partsT] at h
    split at h
    · rename_i t ts' h1 h2
      simp at h; subst h
      exact ⟨rfl, VR_opd hf h1, parts_ok hf h2⟩
    · simp at h

theorem places_ok {C : Cfg} : ∀ {fs : List Field} {pl : List (Nat × Nat)}, placesOf C fs = some pl → ∀ w, (fs.mapM fun f => do pure (f.offset, ← sizeOf f.type) : Sem (List (Nat × Nat))).run C.P w = .ok pl w
  | [], pl, h, w => by simp [placesOf] at h; subst h; simp
  | f :: fs, pl, h, w => by
    simp only [placesOf] at h
    split at h
    · rename_i i ps h1 h2
      simp at h; subst h
      have ih := places_ok h2 w
      have hsz := ty_size (t := f.type) h1 w
      simp only [List.mapM_cons, Sem.run_bind, hsz, Result.andThen_ok, Sem.run_pure, ih]
    · simp at h

theorem build_ok {C : Cfg} {N : Nat} {fr : Fr} {a : Act} {G : Gh} {E : List Nat} {w : World} {t : TypeId} {ps : Array (Nat × Operand)} {r : T} (hf : FR N G E w fr a) (h : buildOp C fr t ps.toList = some r) :
    KO C (Instr.build t (ps.map fun (i, x) => (i, a.eval x))) G E w r := by
  unfold buildOp at h
  split at h
  · rename_i i ts hi hts
    have hP := parts_ok hf hts
    split at h
    · rename_i zs hz
      have hzv := VR_ofVal (G := G) (E := E) (w := w) hz
      unfold VR at hzv
      obtain ⟨zarr, hze, hzR⟩ := hzv
      have hzr := ty_zero hi
      rw [hze] at hzr
      have hu := ty_under hi
      have hmap : (ps.map fun (x : Nat × Operand) => match x with | (i, x) => (i, a.eval x)).toList = ps.toList.map fun p => (p.1, a.eval p.2) := by simp
      split at h
      · rename_i fields hd
        rw [hd] at hu
        split at h
        · rename_i pl hpl
          cases hfl : fillT (pl[·]?) zs ts with
          | none => simp [hfl] at h
          | some cs =>
            simp [hfl] at h; subst h
            obtain ⟨arr', h1, h2⟩ := fill_ok hP hzR hfl
            refine KO.same (v := .agg arr') ?_ (by unfold VR; exact ⟨arr', rfl, h2⟩)
            have hpp := places_ok hpl
            have hpm : ∀ w, (fields.mapM fun f => do pure (f.offset, ← sizeOf f.type) : Sem (Array (Nat × Nat))).run C.P w = .ok pl.toArray w := fun w => by
              rw [Array.mapM_eq_mapM_toList]
              simp only [Sem.run_map, hpp w, Result.andThen_ok]
            simp only [Instr.build, Sem.run_bind, hzr, Result.andThen_ok, hu, hpm]
            rw [hmap]
            have : (fun x : Nat => pl.toArray[x]?) = fun x : Nat => pl[x]? := by funext x; simp
            simp only [this]
            simp [Value.cells, h1]
        · simp at h
      · rename_i n e hd
        rw [hd] at hu
        split at h
        · rename_i ei hei
          cases hfl : fillT (fun k => some (k * ei.size, ei.size)) zs ts with
          | none => simp [hfl] at h
          | some cs =>
            simp [hfl] at h; subst h
            obtain ⟨arr', h1, h2⟩ := fill_ok hP hzR hfl
            refine KO.same (v := .agg arr') ?_ (by unfold VR; exact ⟨arr', rfl, h2⟩)
            have hsz := ty_size (t := e) hei
            simp only [Instr.build, Sem.run_bind, hzr, Result.andThen_ok, hu, hsz]
            rw [hmap]
            simp [Value.cells, h1]
        · simp at h
      · simp at h
    · simp at h
  · simp at h

theorem repeatL_length {α : Type} (zs : List α) : ∀ n, (repeatL zs n).length = n * zs.length
  | 0 => by simp [repeatL]
  | n + 1 => by simp [repeatL, repeatL_length zs n, Nat.add_mul, Nat.add_comm]

theorem repeatL_get {α : Type} (zs : List α) : ∀ (n j : Nat), j < n * zs.length → (repeatL zs n)[j]? = zs[j % zs.length]?
  | 0, j, h => by simp at h
  | n + 1, j, h => by
    simp only [repeatL]
    by_cases hj : j < zs.length
    · rw [List.getElem?_append_left hj, Nat.mod_eq_of_lt hj]
    · rw [List.getElem?_append_right (by omega), repeatL_get zs n _ (by rw [Nat.add_mul] at h; omega)]
      congr 1
      rw [← Nat.mod_eq_sub_mod (by omega)]

theorem repeatL_VRL {G : Gh} {E : List Nat} {w : World} {zs : List T} {vs : List Value} (h : VRL G E w zs vs) (n : Nat) : VRL G E w (repeatL zs n) (repeatL vs n) := by
  induction n with
  | zero => unfold repeatL VRL; trivial
  | succ n ih => unfold repeatL; exact VRL_append h ih

theorem range_zero (zero : Array Value) (n : Nat) (hz : 0 < zero.size) : ((Array.range (n * zero.size)).map (zero[· % zero.size]!)).toList = repeatL zero.toList n := by
  apply List.ext_getElem?
  intro j
  by_cases hj : j < n * zero.size
  · rw [repeatL_get zero.toList n j (by simpa using hj)]
    have hm := Nat.mod_lt j hz
    simp [hj, hm]
  · rw [List.getElem?_eq_none (by simp; omega), List.getElem?_eq_none (by rw [repeatL_length]; simp; omega)]

theorem range_nil (f : Nat → Value) {n : Nat} (h : n = 0) : (Array.range n).map f = #[] := by subst h; simp

theorem range_cells {P : Program} {e : TypeId} {i : TyI} (hi : tyOf P e = some i) {zs : List T} (hz : (T.ofVal i.zero).map T.cells = some zs) (hl : zs.length = i.size) (G : Gh) (E : List Nat) (w : World) (n : Nat) :
    ∃ arr : Array Value, VRL G E w (repeatL zs n) arr.toList ∧ arr.size = n * i.size ∧ (n * i.size = 0 → arr = #[]) ∧ (¬ n * i.size = 0 → arr = (Array.range (n * i.size)).map (i.zero.cells[· % i.zero.cells.size]!)) := by
  cases hov : T.ofVal i.zero with
  | none => simp [hov] at hz
  | some zt =>
    simp [hov] at hz; subst hz
    have hv := VR_ofVal (G := G) (E := E) (w := w) hov
    have hcv := VR_cells hv
    have hlen := VRL_length hcv
    simp at hlen
    by_cases h0 : n * i.size = 0
    · refine ⟨#[], ?_, by simp [h0], fun _ => rfl, fun h => absurd h0 h⟩
      have : (repeatL zt.cells n).length = 0 := by rw [repeatL_length, hl, h0]
      rw [List.eq_nil_of_length_eq_zero this]
      unfold VRL; trivial
    · refine ⟨((Array.range (n * i.size)).map (i.zero.cells[· % i.zero.cells.size]!)), ?_, by simp, fun h => absurd h h0, fun _ => rfl⟩
      have hp : 0 < i.zero.cells.size := by
        rcases Nat.eq_zero_or_pos i.size with h | h
        · rw [h] at h0; simp at h0
        · omega
      have hs : i.size = i.zero.cells.size := by omega
      rw [hs, range_zero _ _ hp]
      exact repeatL_VRL hcv n

theorem DRL_new {G : Gh} {E : List Nat} {w : World} {arr : Array Value} {e : TypeId} {ds : List D} (hB : G.B ≤ w.heap.size) (hs : ∀ id g, G.bx id = some g → g < w.heap.size) (ht : ∀ k r, G.tk k = some r → r.g < w.heap.size) (h : DRs (Im G) w ds arr.toList) :
    DRL (Im G) (w.alloc (.cells arr e)) ⟨w.heap.size, 0, none⟩ 0 ds := by
  have hk : ∀ a, Im G a → (w.cell? a).isSome = true → Im G a ∧ (w.alloc (.cells arr e)).cell? a = w.cell? a := fun a ha hs => ⟨ha, World.cell?_alloc_lt _ _ _ (cell_lt hs)⟩
  refine DRL_of_vals (DRs_mono hk h) fun m u hu => ?_
  rw [Addr.add_none]
  refine ⟨by rw [cell_of_block (heap_new w _)]; simpa using hu, .inr ⟨hB, fun id g hg => ?_, fun k r hr he => ?_⟩⟩
  · have := hs id g hg; simp; omega
  · have := ht k r hr; simp at he; omega

theorem buildSlice_ok {C : Cfg} {N : Nat} {fr : Fr} {a : Act} {st : St} {G : Gh} {w0 w : World} {t : TypeId} {len : Nat} {ps : Array (Nat × Operand)} {r : T} (hf : FR N G st.E w fr a) (hs : SR st G w0 w) (h : buildSliceOp C fr t len ps.toList = some r) :
    KO C (Instr.buildSlice t len (ps.map fun (i, x) => (i, a.eval x))) G st.E w r := by
  unfold buildSliceOp at h
  split at h
  · rename_i e ts ht hts
    obtain ⟨ti, hti, htd⟩ := tyD_some ht
    have hu := ty_under hti
    rw [htd] at hu
    have hP := parts_ok hf hts
    split at h
    · rename_i i hi
      split at h
      · rename_i hsm
        split at h
        · rename_i zs hz
          split at h
          · rename_i hzl
            cases hfl : fillT (fun k => some (k * i.size, i.size)) (repeatL zs len) ts with
            | none => simp [hfl] at h
            | some cs =>
              simp [hfl] at h
              cases hds : T.toDs cs with
              | none => simp [hds] at h
              | some ds =>
                simp [hds] at h; subst h
                obtain ⟨arr, hR, hsz, hn0, hn1⟩ := range_cells (P := C.P) hi hz hzl G st.E w len
                obtain ⟨arr', h1, h2⟩ := fill_ok hP hR hfl
                have hD := DRs_toDs h2 hds
                have hsize := ty_size (t := e) hi
                have hmap : (ps.map fun (x : Nat × Operand) => match x with | (i, x) => (i, a.eval x)).toList = ps.toList.map fun p => (p.1, a.eval p.2) := by simp
                refine ⟨.slice (some ⟨w.heap.size, 0, none⟩) len len, w.alloc (.cells arr' e), ?_, keep_alloc _ hs.base, ?_⟩
                · unfold Instr.buildSlice
                  simp only [Sem.run_bind, hu, Result.andThen_ok, hsize]
                  rw [if_neg (by omega), hmap]
                  by_cases h0 : len * i.size = 0
                  · rw [if_pos h0]
                    simp only [Sem.run_bind, Sem.run_pure, Result.andThen_ok]
                    rw [range_nil _ h0, ← hn0 h0, h1]
                    simp [newRow, newObj, Sem.run]
                  · rw [if_neg h0]
                    have hz2 := ty_zero (t := e) hi
                    simp only [Sem.run_bind, Sem.run_pure, Result.andThen_ok, hz2]
                    rw [← hn1 h0, h1]
                    simp [newRow, newObj, Sem.run]
                · unfold VR
                  refine .inr ⟨rfl, _, _, rfl, Nat.le_refl _, DRL_new (E := st.E) hs.base (fun id g hg => (hs.box id g hg).2.1) (fun k r hr => (hs.tok k r hr).2.1) hD, rfl, hs.base⟩
          · simp at h
        · simp at h
      · simp at h
    · simp at h
  · simp at h

end Go.Tm
end
section
set_option linter.unusedVariables false
set_option linter.unusedSimpArgs false
namespace Go.Tm
open Go Go.RowKit

/-! ### flat values -/
theorem mapM_two {fr : Fr} {x y : Operand} {vs : List Value} (h : [x, y].mapM (opdV fr) = some vs) : ∃ v u, opdV fr x = some v ∧ opdV fr y = some u ∧ vs = [v, u] := by
  simp only [List.mapM_cons, List.mapM_nil] at h
  cases h1 : opdV fr x with
  | none => simp [h1] at h
  | some v =>
    cases h2 : opdV fr y with
    | none => simp [h1, h2] at h
    | some u => simp [h1, h2] at h; exact ⟨v, u, rfl, rfl, h.symm⟩
theorem mapM_one {fr : Fr} {x : Operand} {vs : List Value} (h : [x].mapM (opdV fr) = some vs) : ∃ v, opdV fr x = some v ∧ vs = [v] := by
  simp only [List.mapM_cons, List.mapM_nil] at h
  cases h1 : opdV fr x with
  | none => simp [h1] at h
  | some v => simp [h1] at h; exact ⟨v, rfl, h.symm⟩

theorem flat1_some {C : Cfg} {o : Oper} {fr : Fr} {xs : List Operand} {r : T} (h : flat1 C o fr xs = some r) : ∃ vs v, xs.mapM (opdV fr) = some vs ∧ flatOp C.P o vs = some v ∧ T.ofVal v = some r := by
  unfold flat1 at h
  split at h
  · rename_i vs hvs
    cases hv : flatOp C.P o vs with
    | none => simp [hv] at h
    | some v => simp [hv] at h; exact ⟨vs, v, hvs, hv, h⟩
  · simp at h

/-! ### bytes and texts -/
theorem strOfD_vals {J : Addr → Prop} {w : World} : ∀ {cs : List D} {bs : List UInt8} {us : List Value}, strOfD cs = some bs → DRs J w cs us → ∃ ns : List Int, us = ns.map (Value.int .u8) ∧ bs = ns.map fun n => UInt8.ofNat n.toNat
  | [], bs, [], h, _ => by simp [strOfD] at h; subst h; exact ⟨[], rfl, rfl⟩
  | x :: xs, bs, u :: us, h, hd => by
    simp only [strOfD] at h
    split at h
    · rename_i b bs' h1 h2
      simp at h; subst h
      obtain ⟨ns, e1, e2⟩ := strOfD_vals h2 hd.2
      unfold byteOfD at h1
      split at h1
      · rename_i n
        simp at h1; subst h1
        have := hd.1
        unfold DR at this
        exact ⟨n :: ns, by simp [e1, this.1], by simp [e2]⟩
      · simp at h1
    · simp at h
  | [], _, _ :: _, _, h => h.elim
  | _ :: _, _, [], _, h => h.elim

theorem foldl_push (ns : List Int) : ∀ s : ByteArray, ns.foldl (fun r n => r.push (UInt8.ofNat n.toNat)) s = ⟨(s.data.toList ++ ns.map fun n => UInt8.ofNat n.toNat).toArray⟩ := by
  induction ns with
  | nil => intro s; simp
  | cons n ns ih =>
    intro s
    simp only [List.foldl_cons, ih]
    simp [ByteArray.push]

theorem DRs_bytes {J : Addr → Prop} {w : World} (s : List UInt8) : DRs J w (s.map fun b => D.flat (.int .u8 b.toNat)) (s.map fun b => Value.int .u8 b.toNat) := by
  induction s with
  | nil => trivial
  | cons b s ih => exact ⟨by unfold DR; exact ⟨rfl, rfl⟩, ih⟩

theorem keep_bytes {B : Nat} {w : World} (e : TypeId) (s : ByteArray) (hB : B ≤ w.heap.size) : Keep B w (Lib.bytesWorld w e s) :=
  Keep.of_below ⟨rfl, rfl, rfl, by rw [Lib.bytesWorld_size]; omega, fun k hk => Lib.bytesWorld_at_old w e s k hk⟩ hB

theorem keep_mark {B : Nat} {w : World} {a : Addr} {n : Nat} {e : TypeId} (hB : B ≤ a.block) (h : w.shape? a.block = some (e, n)) : Keep B w (w.freeze { block := a.block, off := n } 1) := by
  have hne : ∀ k, k ≠ a.block → (w.freeze { block := a.block, off := n } 1).heap[k]? = w.heap[k]? := fun k hk => by
    simp [World.freeze, Array.getElem?_modify, Ne.symm hk]
  refine ⟨by simp [World.freeze], by simp [World.freeze], by simp [World.freeze], by simp [World.freeze], fun k hk => hne k (by omega), fun k hk => ?_⟩
  by_cases hkb : k = a.block
  · subst hkb
    unfold World.shape? at h
    split at h
    · rename_i c el fz hc
      simp at h
      obtain ⟨rfl, rfl⟩ := h
      right
      refine ⟨c, el, fz, (if fz.1 == fz.2 then (c.size, c.size + 1) else (min fz.1 c.size, max fz.2 (c.size + 1))), hc, ?_, fun hf => ?_⟩
      · obtain ⟨lo, hi⟩ := fz
        simp [World.freeze, Array.getElem?_modify, hc]
      · unfold fzOK at hf ⊢
        split
        · exact .inr (Nat.le_refl _)
        · rename_i hne
          simp at hne
          right
          rcases hf with hf | hf
          · exact absurd hf hne
          · simp; omega
    · simp at h
  · exact .inl (hne k hkb)

theorem conv_ok {C : Cfg} {N : Nat} {fr : Fr} {a : Act} {st : St} {G : Gh} {w0 w : World} {o : Oper} {src dst : TypeId} {x : Operand} {r : T} (ho : o.op = .convert src dst x) (hf : FR N G st.E w fr a) (hs : SR st G w0 w) (h : convOp C o fr src dst x = some r) :
    KO C (convert src dst (a.eval x)) G st.E w r := by
  have flat : ∀ {r}, flat1 C o fr [x] = some r → KO C (convert src dst (a.eval x)) G st.E w r := by
    intro r h
    obtain ⟨vs, v, h1, h2, h3⟩ := flat1_some h
    obtain ⟨u, h4, rfl⟩ := mapM_one h1
    unfold flatOp at h2
    rw [ho] at h2
    rw [eval_opdV hf h4]
    exact KO.same (evS_run h2 w) (VR_ofVal h3)
  unfold convOp at h
  split at h
  · rename_i nl n cs ow hx
    have hv := VR_opd hf hx
    unfold VR at hv
    split at h
    · rename_i e hsrc hdst
      obtain ⟨si, hsi, hsd⟩ := tyD_some hsrc
      obtain ⟨di, hdi, hdd⟩ := tyD_some hdst
      obtain ⟨_, _, _, _, _, us⟩ := ty_facts hsi
      obtain ⟨_, _, _, _, _, ud⟩ := ty_facts hdi
      rw [hsd] at us
      rw [hdd] at ud
      split at h
      · rename_i he
        obtain ⟨ei, hei, hed⟩ := tyD_some he
        obtain ⟨_, _, _, _, _, ue⟩ := ty_facts hei
        rw [hed] at ue
        split at h
        · rename_i hlen
          cases hst : strOfD cs with
          | none => simp [hst] at h
          | some bs =>
            simp [hst] at h; subst h
            rcases hv with ⟨_, _, rfl, hv⟩ | ⟨_, ad, cap, hv, _, hD, _⟩
            · simp [strOfD] at hst; subst hst
              refine KO.same (v := .string ⟨#[]⟩) ?_ (by unfold VR; exact ⟨rfl, rfl⟩)
              rw [hv, run_convert_bytes_string w src dst e none 0 0 us ue ud]
              rfl
            · obtain ⟨vals, hd1, hd2⟩ := DRL_vals hD
              obtain ⟨ns, rfl, rfl⟩ := strOfD_vals hst hd1
              have hl := DRs_length hd1
              have hload := run_loadCells_list (P := C.P) w ad (ns.map (Value.int .u8)) (fun j v hj => by have := (hd2 j v hj).1; rwa [Nat.zero_add] at this)
              rw [show (ns.map (Value.int .u8)).length = n by rw [hl, hlen]] at hload
              refine KO.same (v := .string ⟨(ns.map fun n => UInt8.ofNat n.toNat).toArray⟩) ?_ (by unfold VR; exact ⟨rfl, rfl⟩)
              rw [hv, run_convert_bytes_string w src dst e (some ad) n cap us ue ud, run_bytesToString w ad n cap ns hload, foldl_push]
              simp [ByteArray.empty, ByteArray.emptyWithCapacity]
              rfl
        · simp at h
      · simp at h
    · rename_i e' e hsrc hdst
      obtain ⟨si, hsi, hsd⟩ := tyD_some hsrc
      obtain ⟨di, hdi, hdd⟩ := tyD_some hdst
      have us := ty_under hsi
      have ud := ty_under hdi
      rw [hsd] at us
      rw [hdd] at ud
      split at h
      · rename_i he
        obtain ⟨ei, hei, hed⟩ := tyD_some he
        have ue := ty_under hei
        rw [hed] at ue
        split at h
        · split at h
          · rename_i hc
            obtain ⟨rfl, rfl⟩ := hc
            simp at h; subst h
            obtain rfl : si = di := by have := hsi.symm.trans hdi; injection this
            obtain rfl : e' = e := by rw [hsd] at hdd; injection hdd
            rcases hv with ⟨hv, _⟩ | ⟨_, ad, cap, hv, h1, hD, hcap, hB⟩
            · cases hv
            · have key : (convert src src (.slice (some ad) n cap)).run C.P w = ((markStringish ad).run C.P w).andThen fun _ w' => .ok (.slice (some ad) n cap) w' := by
                simp [convert, us, ue]
              rw [hv]
              cases hsh : w.shape? ad.block with
              | none =>
                refine KO.same (v := .slice (some ad) n cap) ?_ (by unfold VR; exact .inr ⟨rfl, ad, cap, rfl, h1, hD, hcap, hB⟩)
                rw [key]
                simp [markStringish, shape, Sem.run, hsh, Result.andThen]
              | some sh =>
                obtain ⟨el, m⟩ := sh
                have hk := keep_mark hB hsh
                refine ⟨.slice (some ad) n cap, _, ?_, hk, ?_⟩
                · rw [key]
                  simp [markStringish, shape, Sem.run, hsh, freeze, Result.andThen]
                · exact VR_mono (Ext_keep hk) _ _ (by unfold VR; exact .inr ⟨rfl, ad, cap, rfl, h1, hD, hcap, hB⟩)
          · simp at h
        · simp at h
      · simp at h
    · simp at h
  · rename_i s hx
    have hv := VR_opd hf hx
    unfold VR at hv
    split at h
    · rename_i e hsrc hdst
      obtain ⟨si, hsi, hsd⟩ := tyD_some hsrc
      obtain ⟨_, _, _, _, _, us⟩ := ty_facts hsi
      obtain ⟨di, hdi, hdd⟩ := tyD_some hdst
      obtain ⟨_, _, _, _, _, ud⟩ := ty_facts hdi
      rw [hdd] at ud
      split at h
      · rename_i he
        obtain ⟨ei, hei, hed⟩ := tyD_some he
        obtain ⟨_, _, _, _, _, ue⟩ := ty_facts hei
        rw [hed] at ue
        simp at h; subst h
        have hk := keep_bytes (B := G.B) e s hs.base
        refine ⟨.slice (some ⟨w.heap.size, 0, none⟩) s.size (grownCap w s.size 0 e), Lib.bytesWorld w e s, ?_, hk, ?_⟩
        · rw [hv.1]
          exact Lib.run_convert_string_bytes w src dst e s us ud ue
        · unfold VR
          refine .inr ⟨rfl, _, _, rfl, grownCap_ge _ _ _ _, ?_, trivial⟩
          refine DRL_of_vals (us := s.data.toList.map fun b => Value.int .u8 b.toNat) (DRs_bytes _) fun m u hu => ?_
          have hm : m < s.size := by
            have := (List.getElem?_eq_some_iff.1 hu).1
            simp at this
            exact this
          rw [Addr.add_none, Nat.zero_add, Lib.bytesWorld_cell w e s m hm]
          refine ⟨?_, .inr ⟨hs.base, fun id g hg => ?_, fun k r hr he => ?_⟩⟩
          · have h' : m < s.data.toList.length := by rw [Array.length_toList]; exact hm
            simp only [List.getElem?_map, List.getElem?_eq_getElem h', Option.map_some] at hu
            rw [← hu]
            simp [List.getD_eq_getElem?_getD, List.getElem?_eq_getElem h']
          · have := (hs.box id g hg).2.1; simp; omega
          · have := (hs.tok k r hr).2.1; simp at he; omega
      · simp at h
    · exact flat h
  · rename_i k n hx
    split at h
    · rename_i u k' hsrc hdst
      simp at h
      subst h
      obtain ⟨si, hsi, hsd⟩ := tyD_some hsrc
      obtain ⟨di, hdi, hdd⟩ := tyD_some hdst
      have hu := ty_under hsi
      have hv := ty_under hdi
      rw [hdd] at hv
      have hx' := VR_opd hf hx
      unfold VR at hx'
      refine KO.same (v := .int k' (k'.wrap n)) ?_ (by unfold VR; exact ⟨rfl, rfl⟩)
      rw [hx'.1]
      unfold convert
      simp only [Sem.run_bind, hu, Result.andThen_ok, hv]
      cases si.desc <;> simp [Conv.intToInt]
    · exact flat h
  · exact flat h

end Go.Tm
end
section
set_option linter.unusedVariables false
set_option linter.unusedSimpArgs false
namespace Go.Tm
open Go Go.RowKit

def MapR (G : Gh) (E : List Nat) (w : World) (es : List (Value × T)) (arr : List MapEntry) : Prop :=
  arr.length = es.length ∧ ∀ (i : Nat) (k : Value) (t : T), es[i]? = some (k, t) → flatV k = true ∧ ∃ en, arr[i]? = some en ∧ en.key = k ∧ VR G E w t en.val

theorem MapR_tail {G : Gh} {E : List Nat} {w : World} {e : Value × T} {es : List (Value × T)} {en : MapEntry} {arr : List MapEntry} (h : MapR G E w (e :: es) (en :: arr)) : en.key = e.1 ∧ VR G E w e.2 en.val ∧ MapR G E w es arr := by
  obtain ⟨h1, h2⟩ := h
  obtain ⟨_, en', h3, h4, h5⟩ := h2 0 e.1 e.2 (by simp)
  simp at h3; subst h3
  exact ⟨h4, h5, by simpa using h1, fun i k t hi => h2 (i + 1) k t (by simpa using hi)⟩

theorem find_ok {G : Gh} {E : List Nat} {w : World} {kind : TypeDesc} {key : Value} : ∀ {es : List (Value × T)} {arr : List MapEntry} {r : Option T} (j : Nat), MapR G E w es arr → findT kind key es = some r →
    match r with
    | some t => ∃ i v, Instr.findNow kind key arr j = some (some (i, v)) ∧ VR G E w t v
    | none => Instr.findNow kind key arr j = some none
  | [], arr, r, j, h, hr => by
    have : arr = [] := by have := h.1; simpa using this
    subst this
    simp [findT] at hr; subst hr
    rfl
  | e :: es, [], r, j, h, hr => by have := h.1; simp at this
  | (k', t') :: es, en :: arr, r, j, h, hr => by
    obtain ⟨h1, h2, h3⟩ := MapR_tail h
    simp only [findT] at hr
    simp only [Instr.findNow, h1]
    cases hs : Instr.sameNow kind key k' with
    | none => simp [hs] at hr
    | some b =>
      cases b with
      | true =>
        simp [hs] at hr; subst hr
        exact ⟨j, en.val, by simp, h2⟩
      | false =>
        simp only [hs] at hr
        have := find_ok (j + 1) h3 hr
        simpa using this

theorem run_checkKey {P : Program} {t : TypeId} {i : TyI} (h : tyOf P t = some i) (hk : keyD i.desc = true) (b : Bool) (v : Value) (w : World) : (Instr.checkKey b 10000 t v).run P w = .ok () w := by
  show (Instr.checkKey b (9999 + 1) t v).run P w = .ok () w
  unfold Instr.checkKey
  simp only [Sem.run_bind, ty_under h, Result.andThen_ok]
  cases hd : i.desc <;> rw [hd] at hk <;> simp [keyD] at hk <;> rfl

theorem lookup_ok {C : Cfg} {N : Nat} {fr : Fr} {a : Act} {st : St} {G : Gh} {w0 w : World} {t : TypeId} {x ix : Operand} {ok : Bool} {r : T} (hf : FR N G st.E w fr a) (hs : SR st G w0 w) (h : lookupOp C fr st.H t x ix ok = some r) :
    KO C (Instr.lookup t (a.eval x) (a.eval ix) ok) G st.E w r := by
  unfold lookupOp at h
  split at h
  · rename_i k e ht
    obtain ⟨ti, hti, htd⟩ := tyD_some ht
    have hu := ty_under hti
    rw [htd] at hu
    split at h
    · rename_i ki ei key es hki hei hkey hes
      split at h
      · rename_i hkd
        have hkv := eval_opdV hf hkey
        have huk := ty_under (t := k) hki
        have hck := fun b => run_checkKey hki hkd b key w
        have hzero := ty_zero (t := e) hei w
        obtain ⟨arr, hR, hx⟩ : ∃ arr : Array MapEntry, MapR G st.E w es arr.toList ∧ ((a.eval x = .map none ∧ arr = #[]) ∨ ∃ g clock, a.eval x = .map (some g) ∧ w.heap[g]? = some (.map arr clock)) := by
          unfold mapOf at hes
          split at hes
          · rename_i id hx
            split at hes
            · rename_i es' hes'
              simp at hes; subst hes
              have hv := VR_opd hf hx
              unfold VR at hv
              obtain ⟨g, hg, hv⟩ := hv
              obtain ⟨_, _, b, hb', hR⟩ := hs.box id g hg
              rw [hb'] at hes'; injection hes' with hes'; subst hes'
              obtain ⟨arr, clock, h1, h2, h3⟩ := hR
              exact ⟨arr, ⟨by simpa using h2, by simpa using h3⟩, .inr ⟨g, clock, hv, h1⟩⟩
            · simp at hes
          · rename_i hx
            simp at hes; subst hes
            have hv := VR_opd hf hx
            unfold VR at hv
            exact ⟨#[], ⟨rfl, fun i k t h => by simp at h⟩, .inl ⟨hv.1, rfl⟩⟩
          · simp at hes
        have hfindR : ∀ r', Instr.findNow ki.desc key arr.toList 0 = some r' → (Instr.findKey k key arr.toList).run C.P w = .ok r' w := by
          intro r' h
          simp only [Instr.findKey, Sem.run_bind, huk, Result.andThen_ok, h, Sem.run_pure]
        have hrun : ∀ r', Instr.findNow ki.desc key arr.toList 0 = some r' → (Instr.lookup t (a.eval x) (a.eval ix) ok).run C.P w =
            ((match r' with | some (_, v) => pure (v, true) | none => do pure (← zeroValue e, false) : Sem (Value × Bool)).run C.P w).andThen fun p w' => .ok (if ok then .tuple #[p.1, .bool p.2] else p.1) w' := by
          intro r' hr'
          have hfk := hfindR r' hr'
          rw [hkv]
          rcases hx with ⟨hx, rfl⟩ | ⟨g, clock, hx, hh⟩
          · rw [hx]
            have hfk : (Instr.findKey k key []).run C.P w = .ok r' w := hfk
            simp only [Instr.lookup, Sem.run_bind, hu, Result.andThen_ok, Sem.run_pure, hck, hfk]
            cases r' with
            | none => simp [hzero, hfk]
            | some p => obtain ⟨i, v⟩ := p; simp [hfk]
          · rw [hx]
            simp only [Instr.lookup, Sem.run_bind, hu, Result.andThen_ok, Sem.run_pure, getObj, Sem.run, hh, hck, hfk]
            cases r' with
            | none => simp [hzero]
            | some p => obtain ⟨i, v⟩ := p; simp
        have hfo := fun r' (h : findT ki.desc key es = some r') => find_ok (j := 0) hR h
        split at h
        · rename_i t' hft
          simp at h; subst h
          obtain ⟨i, v, h1, h2⟩ := hfo _ hft
          refine KO.same (v := if ok then .tuple #[v, .bool true] else v) ?_ ?_
          · rw [hrun _ h1]
            simp
          · cases ok
            · exact h2
            · simp only [if_true]
              unfold VR VRL VRL VRL
              exact ⟨_, rfl, h2, by unfold VR; exact ⟨rfl, rfl⟩, trivial⟩
        · rename_i hft
          have h1 := hfo _ hft
          split at h
          · rename_i z hz
            simp at h; subst h
            refine KO.same (v := if ok then .tuple #[ei.zero, .bool false] else ei.zero) ?_ ?_
            · rw [hrun _ h1]
              simp [hzero]
            · have h2 : VR G st.E w z ei.zero := VR_ofVal hz
              cases ok
              · exact h2
              · simp only [if_true]
                unfold VR VRL VRL VRL
                exact ⟨_, rfl, h2, by unfold VR; exact ⟨rfl, rfl⟩, trivial⟩
          · simp at h
        · simp at h
      · simp at h
    · simp at h
  · simp at h

theorem exec_builtin {ρ : Operand → Value} {o : Oper} {b : Builtin} {args : Array Operand} {argTypes : Array TypeId} (ho : o.op = .call { callee := .builtin b, args := args, argTypes := argTypes }) :
    ∃ consts, execOp ρ o = builtin b argTypes o.type consts (args.map ρ) := by
  refine ⟨(args.map fun | .const _ => true | _ => false), ?_⟩
  unfold execOp
  rw [ho]
  rfl

theorem fast_ok {P : Program} {G : Gh} {E : List Nat} {w : World} {op : BinOp} {ta tb r : T} {a b : Value} {t : TypeId} {x y : Operand} (h : fastOp op ta tb = some r) (ha : VR G E w ta a) (hb : VR G E w tb b) :
    ∃ v, (do eqGuard op t x y a b; binOp op t a b : Sem Value).run P w = .ok v w ∧ VR G E w r v := by
  unfold fastOp at h
  split at h
  · rename_i k n k' m
    unfold VR at ha hb
    obtain ⟨rfl, _⟩ := ha
    obtain ⟨rfl, _⟩ := hb
    split at h
    · unfold fastS at h
      split at h
      · rename_i h0
        have hn : ¬ m < 0 := by omega
        cases op <;> simp at h <;> subst h <;> refine ⟨_, ?_, by unfold VR; exact ⟨rfl, rfl⟩⟩ <;> simp [eqGuard, binOp, Op.shift, hn]
      · simp at h
    · rename_i hsh
      split at h
      · rename_i hk
        subst hk
        unfold fastI at h
        cases op
        case quo => 
          simp at h
          obtain ⟨h0, rfl⟩ := h
          refine ⟨_, ?_, by unfold VR; exact ⟨rfl, rfl⟩⟩
          simp [eqGuard, binOp, Op.intDiv, h0]
        case rem => 
          simp at h
          obtain ⟨h0, rfl⟩ := h
          refine ⟨_, ?_, by unfold VR; exact ⟨rfl, rfl⟩⟩
          simp [eqGuard, binOp, Op.intDiv, h0]
        all_goals first
          | (simp at h; done)
          | (simp only [Option.some.injEq] at h; subst h; refine ⟨_, ?_, by unfold VR; exact ⟨rfl, rfl⟩⟩; simp [eqGuard, binOp, Op.intArith, Op.intCmp, Op.intBits])
      · simp at h
  · rename_i s s'
    unfold VR at ha hb
    obtain ⟨rfl, _⟩ := ha
    obtain ⟨rfl, _⟩ := hb
    cases op
    case add =>
      simp at h
      obtain ⟨h0, rfl⟩ := h
      refine ⟨_, ?_, by unfold VR; exact ⟨rfl, rfl⟩⟩
      have : ¬ (IntKind.i64.max < (s.size : Int) + s'.size) := by show ¬ (9223372036854775807 < (s.size : Int) + s'.size); omega
      simp [eqGuard, binOp, Op.stringOp]
      omega
    all_goals first
      | (simp at h; done)
      | (simp at h; subst h; refine ⟨_, ?_, by unfold VR; exact ⟨rfl, rfl⟩⟩; simp [eqGuard, binOp, Op.stringOp, ByteArray.toList_eq])
  · simp at h

theorem fieldsEq_ok {P : Program} {G : Gh} {E : List Nat} {w : World} {xs ys : List T} {us vs : Array Value} {d : Nat} (hx : VRL G E w xs us.toList) (hy : VRL G E w ys vs.toList) : ∀ (fs : List Field) (r : Bool), fieldsEq P xs ys fs = some r →
    (Op.eqFields (d + 1) us vs fs).run P w = .ok r w
  | [], r, h => by simp [fieldsEq] at h; subst h; simp [Op.eqFields]
  | f :: fs, r, h => by
    simp only [fieldsEq] at h
    split at h
    · simp at h
    · rename_i hn
      have step : ∀ (u v : Value) (b r' : Bool), P.plainKey f.type = true → xs[f.offset]? = some (.d u) → ys[f.offset]? = some (.d v) → (Op.equalIn (d + 1) f.type u v).run P w = .ok b w → fieldsEq P xs ys fs = some r' → (Op.eqFields (d + 1) us vs (f :: fs)).run P w = .ok (b && r') w := by
        intro u v b r' hp h1 h2 h3 h4
        obtain ⟨u', k1, k2⟩ := VRL_get hx _ _ h1
        obtain ⟨v', k3, k4⟩ := VRL_get hy _ _ h2
        unfold VR at k2 k4
        rw [k2.1] at k1
        rw [k4.1] at k3
        have p1 := run_part_plain w hp (xs := us) (off := f.offset) (v := u) (by simpa using k1)
        have p2 := run_part_plain w hp (xs := vs) (off := f.offset) (v := v) (by simpa using k3)
        have ih := fieldsEq_ok hx hy (d := d) fs r' h4
        simp only [Op.eqFields, hn, ne_eq, not_false_eq_true, if_true, Sem.run_bind, p1, p2, h3, Result.andThen_ok]
        cases b
        · simp
        · simpa using ih
      split at h
      · rename_i k0 k a k' b hu h1 h2
        split at h
        · rename_i hk
          subst hk
          cases h4 : fieldsEq P xs ys fs with
          | none => simp [h4] at h
          | some r' =>
          rw [h4] at h
          simp only [Option.map_some, Option.some.injEq] at h
          subst h
          exact step _ _ _ _ (by simp [Program.plainKey, hu]) h1 h2 (run_equalIn_int w d f.type k k0 a b hu) h4
        · simp at h
      · rename_i a b hu h1 h2
        cases h4 : fieldsEq P xs ys fs with
        | none => simp [h4] at h
        | some r' =>
        rw [h4] at h
        simp only [Option.map_some, Option.some.injEq] at h
        subst h
        exact step _ _ _ _ (by simp [Program.plainKey, hu]) h1 h2 (run_equalIn_bool w d f.type a b hu) h4
      · rename_i a b hu h1 h2
        cases h4 : fieldsEq P xs ys fs with
        | none => simp [h4] at h
        | some r' =>
        rw [h4] at h
        simp only [Option.map_some, Option.some.injEq] at h
        subst h
        refine step _ _ _ _ (by simp [Program.plainKey, hu]) h1 h2 ?_ h4
        have := run_equalIn_string w d f.type a b hu
        rwa [ByteArray.toList_eq, ByteArray.toList_eq] at this
      · simp at h

theorem eqT_ok {P : Program} {G : Gh} {E : List Nat} {w : World} {op : BinOp} {ta tb r : T} {a b : Value} {t : TypeId} {x y : Operand} (h : eqR op (eqT P t ta tb) = some r) (ha : VR G E w ta a) (hb : VR G E w tb b) :
    ∃ v, (do eqGuard op t x y a b; binOp op t a b : Sem Value).run P w = .ok v w ∧ VR G E w r v := by
  obtain ⟨rb, hr⟩ : ∃ rb, eqT P t ta tb = some rb := by
    cases hq : eqT P t ta tb with
    | none => rw [hq] at h; cases op <;> simp [eqR] at h
    | some rb => exact ⟨rb, rfl⟩
  rw [hr] at h
  have key : (eqGuard op t x y a b).run P w = .ok () w ∧ (Op.equal t a b).run P w = .ok rb w ∧ ((∃ us vs, a = .agg us ∧ b = .agg vs) ∨ ∃ p q, a = .bool p ∧ b = .bool q) := by
    unfold eqT at hr
    split at hr
    · rename_i xs ys
      unfold VR at ha hb
      obtain ⟨us, rfl, hx⟩ := ha
      obtain ⟨vs, rfl, hy⟩ := hb
      split at hr
      · rename_i fs hu
        split at hr
        · rename_i hc
          have hfo : P.fieldsOf t = fs := by simp [Program.fieldsOf, hu]
          refine ⟨?_, ?_, .inl ⟨_, _, rfl, rfl⟩⟩
          · unfold eqGuard
            cases op <;> simp [hc.2]
          · unfold Op.equal
            rw [show Op.maxDepth = 9998 + 1 + 1 from rfl, run_equalIn_struct w (9998 + 1) t us vs (by rw [hfo]; exact hu) hc.1, hfo]
            exact fieldsEq_ok hx hy fs.toList rb hr
        · simp at hr
      · simp at hr
    · rename_i p q
      unfold VR at ha hb
      obtain ⟨rfl, _⟩ := ha
      obtain ⟨rfl, _⟩ := hb
      split at hr
      · rename_i hu
        simp at hr
        subst hr
        refine ⟨?_, run_equal_bool w t p q hu, .inr ⟨_, _, rfl, rfl⟩⟩
        unfold eqGuard
        cases op <;> simp
      · simp at hr
    · simp at hr
  obtain ⟨k1, k2, k3⟩ := key
  have fin : ∀ rv, op = .eql ∧ rv = rb ∨ op = .neq ∧ rv = !rb → (do eqGuard op t x y a b; binOp op t a b : Sem Value).run P w = .ok (.bool rv) w := by
    intro rv hop
    simp only [Sem.run_bind, k1, Result.andThen_ok]
    rcases hop with ⟨rfl, rfl⟩ | ⟨rfl, rfl⟩ <;> rcases k3 with ⟨us, vs, rfl, rfl⟩ | ⟨p, q, rfl, rfl⟩ <;> simp [binOp, k2]
  cases op <;> simp [eqR] at h
  · subst h; exact ⟨_, fin rb (.inl ⟨rfl, rfl⟩), by unfold VR; exact ⟨rfl, rfl⟩⟩
  · subst h; exact ⟨_, fin (!rb) (.inr ⟨rfl, rfl⟩), by unfold VR; exact ⟨rfl, rfl⟩⟩

theorem strIx_ok {P : Program} {G : Gh} {E : List Nat} {w : World} {ta tb r : T} {a b : Value} {t : TypeId} (h : strIx P t ta tb = some r) (ha : VR G E w ta a) (hb : VR G E w tb b) :
    ∃ v, (Instr.index t a b).run P w = .ok v w ∧ VR G E w r v := by
  unfold strIx at h
  split at h
  · rename_i s k i
    unfold VR at ha hb
    obtain ⟨rfl, _⟩ := ha
    obtain ⟨rfl, _⟩ := hb
    split at h
    · rename_i hu
      split at h
      · rename_i h0
        cases hg : s.data.toList[i.toNat]? with
        | none => simp [hg] at h
        | some c =>
          simp [hg] at h
          subst h
          refine ⟨.int .u8 c.toNat, ?_, by unfold VR; exact ⟨rfl, rfl⟩⟩
          have hs : s[i.toNat]? = some c := by
            have hlt := (List.getElem?_eq_some_iff.1 hg).1
            have hv := (List.getElem?_eq_some_iff.1 hg).2
            have hlt' : i.toNat < s.size := by simpa using hlt
            rw [getElem?_pos s i.toNat hlt']
            congr 1
          simp [Instr.index, asIntOf, run_underlying hu, h0, hs]
      · simp at h
    · simp at h
  · simp at h

/-! ### all of them -/
theorem quiet_ok {C : Cfg} {N : Nat} {fr : Fr} {a : Act} {st : St} {G : Gh} {w0 w : World} {o : Oper} {r : T} (hf : FR N G st.E w fr a) (hs : SR st G w0 w) (h : quietT C o fr st.H = some r) :
    ∃ v w', (execOp a.eval o).run C.P w = .ok (.value v) w' ∧ Keep G.B w w' ∧ VR G st.E w' r v := by
  have wrap : ∀ {s : Sem Value}, execOp a.eval o = (do pure (.value (← s))) → KO C s G st.E w r → ∃ v w', (execOp a.eval o).run C.P w = .ok (.value v) w' ∧ Keep G.B w w' ∧ VR G st.E w' r v := by
    intro s he hk
    obtain ⟨v, w', h1, h2, h3⟩ := hk
    exact ⟨v, w', by rw [he]; simp only [Sem.run_bind, h1, Result.andThen_ok, Sem.run_pure], h2, h3⟩
  unfold quietT at h
  split at h
  · rename_i x ho
    exact ⟨a.eval x, w, by unfold execOp; rw [ho]; rfl, Keep.refl _ _, VR_opd hf h⟩
  · rename_i x ho
    exact ⟨a.eval x, w, by unfold execOp; rw [ho]; rfl, Keep.refl _ _, VR_opd hf h⟩
  · rename_i c x y ho
    split at h
    · rename_i hc
      have hv := VR_opd hf hc
      unfold VR at hv
      exact ⟨a.eval x, w, by unfold execOp; rw [ho]; simp [hv.1, asBool], Keep.refl _ _, VR_opd hf h⟩
    · rename_i hc
      have hv := VR_opd hf hc
      unfold VR at hv
      exact ⟨a.eval y, w, by unfold execOp; rw [ho]; simp [hv.1, asBool], Keep.refl _ _, VR_opd hf h⟩
    · simp at h
  · rename_i t ps ho
    exact wrap (by unfold execOp; rw [ho]) (build_ok hf h)
  · rename_i t len ps ho
    exact wrap (by unfold execOp; rw [ho]) (buildSlice_ok hf hs h)
  · rename_i t x ho
    exact wrap (by unfold execOp; rw [ho]) (load_ok hf hs h)
  · rename_i x ho
    split at h
    · rename_i id off hx
      simp at h; subst h
      have hv := VR_opd hf hx
      have hv' := hv
      unfold VR at hv'
      obtain ⟨g, hg, hv'⟩ := hv'
      exact ⟨a.eval x, w, by unfold execOp; rw [ho]; simp [hv'], Keep.refl _ _, hv⟩
    · rename_i cs i hx
      simp at h; subst h
      have hv := VR_opd hf hx
      have hv' := hv
      unfold VR at hv'
      obtain ⟨ad, hv', _⟩ := hv'
      exact ⟨a.eval x, w, by unfold execOp; rw [ho]; simp [hv'], Keep.refl _ _, hv⟩
    · simp at h
  · rename_i op t x y yt ho
    unfold binOpT at h
    split at h
    · rename_i ta tb u hx hy ht
      have flat : flat1 C o fr [x, y] = some r → KO C (do eqGuard op t x y (a.eval x) (a.eval y); binOp op t (a.eval x) (a.eval y)) G st.E w r := by
        intro h
        obtain ⟨vs, v, h1, h2, h3⟩ := flat1_some h
        obtain ⟨u1, u2, h4, h5, rfl⟩ := mapM_two h1
        unfold flatOp at h2
        rw [ho] at h2
        rw [eval_opdV hf h4, eval_opdV hf h5]
        exact KO.same (evS_run h2 w) (VR_ofVal h3)
      refine wrap (s := do eqGuard op t x y (a.eval x) (a.eval y); binOp op t (a.eval x) (a.eval y)) (by unfold execOp; rw [ho]) ?_
      split at h
      · rename_i b hn
        simp at h; subst h
        have := (nilEq_ok (C := C) (x := x) (y := y) ht (VR_opd hf hx) (VR_opd hf hy) hn).1
        exact KO.same this (by unfold VR; exact ⟨rfl, rfl⟩)
      · rename_i b hn
        simp at h; subst h
        have := (nilEq_ok (C := C) (x := x) (y := y) ht (VR_opd hf hx) (VR_opd hf hy) hn).2
        exact KO.same this (by unfold VR; exact ⟨rfl, rfl⟩)
      · simp at h
      · split at h
        · rename_i r' hfast
          simp at h; subst h
          obtain ⟨v, h1, h2⟩ := fast_ok (P := C.P) (t := t) (x := x) (y := y) (w := w) hfast (VR_opd hf hx) (VR_opd hf hy)
          exact KO.same h1 h2
        · split at h
          · rename_i r' heq
            simp at h; subst h
            obtain ⟨v, h1, h2⟩ := eqT_ok (P := C.P) (t := t) (x := x) (y := y) (w := w) heq (VR_opd hf hx) (VR_opd hf hy)
            exact KO.same h1 h2
          · exact flat h
    · simp at h
  · rename_i op t x ho
    refine wrap (s := Op.unary op (a.eval x)) (by unfold execOp; rw [ho]) ?_
    unfold unOpT at h
    split at h
    · rename_i b hx
      simp at h; subst h
      have hv := VR_opd hf hx
      unfold VR at hv
      exact KO.same (v := .bool !b) (by rw [hv.1]; simp [Op.unary]) (by unfold VR; exact ⟨rfl, rfl⟩)
    obtain ⟨vs, v, h1, h2, h3⟩ := flat1_some h
    obtain ⟨u, h4, rfl⟩ := mapM_one h1
    unfold flatOp at h2
    rw [ho] at h2
    rw [eval_opdV hf h4]
    exact KO.same (evS_run h2 w) (VR_ofVal h3)
  · rename_i s d x ho
    exact wrap (by unfold execOp; rw [ho]) (conv_ok ho hf hs h)
  · rename_i t x ho
    refine wrap (s := Instr.makeInterface t (a.eval x)) (by unfold execOp; rw [ho]) ?_
    obtain ⟨vs, v, h1, h2, h3⟩ := flat1_some h
    obtain ⟨u, h4, rfl⟩ := mapM_one h1
    unfold flatOp at h2
    rw [ho] at h2
    rw [eval_opdV hf h4]
    exact KO.same (evS_run h2 w) (VR_ofVal h3)
  · rename_i f first captured ho
    split at h
    · rename_i as bs h1 h2
      simp at h; subst h
      refine ⟨.func (.func f) (first.map a.eval) (captured.map a.eval), w, by unfold execOp; rw [ho]; simp [Instr.makeFunc], Keep.refl _ _, ?_⟩
      unfold VR
      exact ⟨_, _, rfl, by simpa using VRL_opds hf h1, by simpa using VRL_opds hf h2⟩
    · simp at h
  · rename_i t x lo hi mx ho
    exact wrap (by unfold execOp; rw [ho]) (slice_ok hf h)
  · rename_i s x f ho
    exact wrap (by unfold execOp; rw [ho]) (fieldA_ok hf h)
  · rename_i t x f ho
    exact wrap (by unfold execOp; rw [ho]) (fieldV_ok hf h)
  · rename_i t x ix ho
    exact wrap (by unfold execOp; rw [ho]) (index_ok hf h)
  · rename_i t x ix ho
    refine wrap (s := Instr.index t (a.eval x) (a.eval ix)) (by unfold execOp; rw [ho]) ?_
    unfold indexT at h
    split at h
    case h_2 => simp at h
    rename_i ta tb hx hy
    split at h
    · rename_i r' hs
      simp at h; subst h
      obtain ⟨v, h1, h2⟩ := strIx_ok (w := w) hs (VR_opd hf hx) (VR_opd hf hy)
      exact KO.same h1 h2
    obtain ⟨vs, v, h1, h2, h3⟩ := flat1_some h
    obtain ⟨u1, u2, h4, h5, rfl⟩ := mapM_two h1
    unfold flatOp at h2
    rw [ho] at h2
    rw [eval_opdV hf h4, eval_opdV hf h5]
    exact KO.same (evS_run h2 w) (VR_ofVal h3)
  · rename_i t x ix ok ho
    exact wrap (by unfold execOp; rw [ho]) (lookup_ok hf hs h)
  · rename_i t ix ho
    split at h
    · rename_i cs ht
      have hv := VR_opd hf ht
      unfold VR at hv
      obtain ⟨vs, hv, hR⟩ := hv
      obtain ⟨v, h1, h2⟩ := VRL_get hR _ _ h
      refine wrap (s := Instr.extract (a.eval t) ix) (by unfold execOp; rw [ho]) (KO.same (v := v) ?_ h2)
      simp at h1
      simp [hv, Instr.extract, h1]
    · simp at h
  · rename_i b args argTypes ho
    split at h
    · rename_i x t hargs htypes
      have e1 : args = #[x] := by apply Array.ext'; simpa using hargs
      have e2 : argTypes = #[t] := by apply Array.ext'; simpa using htypes
      subst e1 e2
      obtain ⟨consts, he⟩ := exec_builtin (ρ := a.eval) ho
      exact wrap (s := Builtin.len_ #[t] o.type #[a.eval x]) (by rw [he]; simp only [List.map_toArray, List.map_cons, List.map_nil]; rfl) (len_ok hf hs h)
    · rename_i x y t1 t2 hargs htypes
      have e1 : args = #[x, y] := by apply Array.ext'; simpa using hargs
      subst e1
      obtain ⟨consts, he⟩ := exec_builtin (ρ := a.eval) ho
      cases ho2 : opds fr [x, y] with
      | none => simp [ho2] at h
      | some ts =>
        simp only [ho2, Option.bind_some] at h
        have hv := VRL_opds hf ho2
        unfold minmax at h
        split at h
        · rename_i k m k' n
          simp only [List.map_cons, List.map_nil] at hv
          unfold VRL VRL at hv
          obtain ⟨h1, h2, _⟩ := hv
          unfold VR at h1 h2
          split at h
          · simp at h; subst h
            refine wrap (s := Builtin.max_ argTypes o.type #[a.eval x, a.eval y]) (by rw [he]; simp only [List.map_toArray, List.map_cons, List.map_nil]; rfl) (KO.same (v := .int k (if m < n then n else m)) ?_ (by unfold VR; exact ⟨rfl, rfl⟩))
            simp [Builtin.max_, h1.1, h2.1, Builtin.max2]
          · simp at h
        · simp at h
    · rename_i x y t1 t2 hargs htypes
      have e1 : args = #[x, y] := by apply Array.ext'; simpa using hargs
      subst e1
      obtain ⟨consts, he⟩ := exec_builtin (ρ := a.eval) ho
      cases ho2 : opds fr [x, y] with
      | none => simp [ho2] at h
      | some ts =>
        simp only [ho2, Option.bind_some] at h
        have hv := VRL_opds hf ho2
        unfold minmax at h
        split at h
        · rename_i k m k' n
          simp only [List.map_cons, List.map_nil] at hv
          unfold VRL VRL at hv
          obtain ⟨h1, h2, _⟩ := hv
          unfold VR at h1 h2
          split at h
          · simp at h; subst h
            refine wrap (s := Builtin.min_ argTypes o.type #[a.eval x, a.eval y]) (by rw [he]; simp only [List.map_toArray, List.map_cons, List.map_nil]; rfl) (KO.same (v := .int k (if n < m then n else m)) ?_ (by unfold VR; exact ⟨rfl, rfl⟩))
            simp [Builtin.min_, h1.1, h2.1, Builtin.min2]
          · simp at h
        · simp at h
    · simp at h
  · simp at h

end Go.Tm
end
section
set_option linter.unusedVariables false
set_option linter.unusedSimpArgs false
namespace Go.Tm
open Go Go.RowKit

/-! ### a box is made -/
theorem box_made {st : St} {G : Gh} {w0 w : World} {id : Nat} {b : Box} {ob : Obj} (hs : SR st G w0 w) (hid : G.bx id = none) (hb : st.H[id]? = some b)
    (hR : ∀ G', Ext G st.E w G' st.E (w.alloc ob) → BoxR G' st.E (w.alloc ob) w.heap.size b) :
    Ext G st.E w (G.box id w.heap.size) st.E (w.alloc ob) ∧ SR st (G.box id w.heap.size) w0 (w.alloc ob) := by
  have hx := Ext_newbox (id := id) (g := w.heap.size) (w1 := w.alloc ob) hs (fun a ha => World.cell?_alloc_lt _ _ _ (cell_lt ha)) hid (Nat.le_refl _)
  refine ⟨hx, SR_newbox hs (keep_alloc ob hs.base) (by simp) hs.base hid hb hx (fun i x hi => ?_) (fun k r hr => ?_) (hR _ hx)⟩
  · have := (hs.box i x hi).2.1; omega
  · have := (hs.tok k r hr).2.1; omega

theorem cells_box {G G' : Gh} {E : List Nat} {w : World} {ts : List T} {arr : Array Value} {e : TypeId} (h : VRL G E w ts arr.toList) (h1 : ts.all T.one = true) (hx : Ext G E w G' E (w.alloc (.cells arr e))) :
    BoxR G' E (w.alloc (.cells arr e)) w.heap.size (.cells ts) := by
  have hl := VRL_length h
  simp at hl
  refine ⟨arr, e, (0, 0), heap_new w _, by omega, .inl rfl, fun i c hc => ⟨?_, ?_⟩⟩
  · exact List.all_eq_true.1 h1 c (List.mem_of_getElem? hc)
  · obtain ⟨v, hv, hr⟩ := VRL_get h i c hc
    exact ⟨v, by simpa using hv, VR_mono hx _ _ hr⟩

theorem alloc_ok {C : Cfg} {N : Nat} {fr : Fr} {a : Act} {st : St} {G : Gh} {w0 w : World} {o : Oper} {b : Box} {mk : Nat → T} {id : Nat} (hf : FR N G st.E w fr a) (hs : SR st G w0 w) (h : allocT C o fr = some (b, mk)) (hid : G.bx id = none) (hb : st.H[id]? = some b) :
    ∃ v w' G', (execOp a.eval o).run C.P w = .ok (.value v) w' ∧ Ext G st.E w G' st.E w' ∧ SR st G' w0 w' ∧ VR G' st.E w' (mk id) v ∧ G' = G.box id w.heap.size ∧ ∃ ob, w' = w.alloc ob := by
  have hg : (G.box id w.heap.size).bx id = some w.heap.size := by simp [Gh.box]
  unfold allocT at h
  split at h
  · rename_i e ho
    split at h
    · rename_i i hi
      cases hz : T.ofVal i.zero with
      | none => simp [hz] at h
      | some z =>
        simp [hz] at h
        obtain ⟨h1, rfl, rfl⟩ := h
        have hv := VR_cells (VR_ofVal (G := G) (E := st.E) (w := w) hz)
        obtain ⟨hx, hs'⟩ := box_made (ob := .cells i.zero.cells e) hs hid hb (fun G' hx => cells_box hv (by simpa using h1) hx)
        have hzero := ty_zero (t := e) hi w
        refine ⟨.pointer (some ⟨w.heap.size, 0, none⟩), _, _, ?_, hx, hs', by unfold VR; exact ⟨_, hg, rfl⟩, rfl, _, rfl⟩
        unfold execOp
        rw [ho]
        simp [Instr.alloc, hzero, newVar, newRow, newObj, Sem.run]
    · simp at h
  · rename_i e x ho
    split at h
    · rename_i t ht
      split at h
      · rename_i h1
        simp at h
        obtain ⟨rfl, rfl⟩ := h
        have hv := VR_cells (VR_opd hf ht)
        obtain ⟨hx, hs'⟩ := box_made (ob := .cells (a.eval x).cells e) hs hid hb (fun G' hx => cells_box hv h1 hx)
        refine ⟨.pointer (some ⟨w.heap.size, 0, none⟩), _, _, ?_, hx, hs', by unfold VR; exact ⟨_, hg, rfl⟩, rfl, _, rfl⟩
        unfold execOp
        rw [ho]
        simp [Instr.box, newVar, newRow, newObj, Sem.run]
      · simp at h
    · simp at h
  · rename_i t ho
    simp at h
    obtain ⟨rfl, rfl⟩ := h
    obtain ⟨hx, hs'⟩ := box_made (ob := .map #[] 0) hs hid hb (fun G' hx => ⟨#[], 0, heap_new w _, rfl, fun i k t h => by simp at h⟩)
    refine ⟨.map (some w.heap.size), _, _, ?_, hx, hs', by unfold VR; exact ⟨_, hg, rfl⟩, rfl, _, rfl⟩
    unfold execOp
    rw [ho]
    simp [Instr.makeMap, newObj, Sem.run]
  · rename_i t l c ho
    split at h
    · rename_i e n m ht hl hc
      obtain ⟨ti, hti, htd⟩ := tyD_some ht
      have hu := ty_under hti
      rw [htd] at hu
      obtain ⟨kl, hl⟩ := eval_intV hf hl
      obtain ⟨kc, hc⟩ := eval_intV hf hc
      split at h
      · rename_i i hi
        split at h
        · rename_i hcnd
          obtain ⟨rfl, h0, hB, hm⟩ := hcnd
          split at h
          · rename_i zs hz
            split at h
            · rename_i hz2
              obtain ⟨hzl, hz1⟩ := hz2
              simp at h
              obtain ⟨rfl, rfl⟩ := h
              obtain ⟨arr, hR, hsz, hn0, hn1⟩ := range_cells (P := C.P) hi hz hzl G st.E w n.toNat
              have hall : (repeatL zs n.toNat).all T.one = true := by
                refine List.all_eq_true.2 fun x hx => ?_
                obtain ⟨j, hj⟩ := List.mem_iff_getElem?.1 hx
                have hj2 := (List.getElem?_eq_some_iff.1 hj).1
                rw [repeatL_length] at hj2
                rw [repeatL_get zs _ _ hj2] at hj
                exact List.all_eq_true.1 hz1 x (List.mem_of_getElem? hj)
              obtain ⟨hx, hs'⟩ := box_made (ob := .cells arr e) hs hid hb (fun G' hx => cells_box hR hall hx)
              obtain ⟨ei, hinfo, hes, heb, hez⟩ := ty_info (t := e) hi
              have hsize := ty_size (t := e) hi
              have hw : IntKind.i64.wrap n = n := IntWalk.i64_in _ ⟨by omega, hm⟩
              refine ⟨.slice (some ⟨w.heap.size, 0, none⟩) n.toNat n.toNat, _, _, ?_, hx, hs', by unfold VR; exact ⟨_, _, hg, rfl, Nat.le_refl _⟩, rfl, _, rfl⟩
              unfold execOp
              rw [ho]
              have hbb : ¬ (ei.bytes * n > 2 ^ 48) := by
                rw [heb]
                have : (i.bytes : Int) * n = ((n.toNat * i.bytes : Nat) : Int) := by
                  rw [Int.natCast_mul, Int.toNat_of_nonneg h0, Int.mul_comm]
                rw [this]
                unfold roomB at hB
                omega
              have hroom : ∀ w, (askRoom (n.toNat * ei.bytes)).run C.P w = .ok () w := fun w => by
                unfold askRoom
                rw [heb, if_neg (by unfold roomBytes; unfold roomB at hB; omega)]
                rfl
              have hnn : ¬ n < 0 := by omega
              have hnn' : ¬ n > n := by omega
              have htest : (decide (n < 0) || decide ((ei.bytes : Int) * n > 2 ^ 48) || decide (n < 0) || decide (n > n)) = false := by
                simp only [hnn, hbb, hnn', decide_false, Bool.or_self]
              simp only [Instr.makeSlice, Sem.run_bind, hu, hl, hc, asInt, asIntOf, Sem.run_pure, Result.andThen_ok, hinfo, hw]
              rw [htest]
              simp only [Bool.false_eq_true, if_false, Sem.run_bind, hroom, Result.andThen_ok, hsize]
              by_cases hz0 : n.toNat * i.size = 0
              · rw [if_pos hz0]
                simp only [Sem.run_bind, Sem.run_pure, Result.andThen_ok]
                rw [range_nil _ hz0, ← hn0 hz0]
                simp [newRow, newObj, Sem.run]
              · rw [if_neg hz0]
                have hzero := ty_zero (t := e) hi
                simp only [Sem.run_bind, Sem.run_pure, Result.andThen_ok, hzero]
                rw [← hn1 hz0]
                simp [newRow, newObj, Sem.run]
            · simp at h
          · simp at h
        · simp at h
      · simp at h
    · simp at h
  · simp at h

/-! ### a box is written -/
theorem store_ok {C : Cfg} {N : Nat} {fr : Fr} {a : Act} {st : St} {G : Gh} {w0 w : World} {t : TypeId} {x y : Operand} {H : List Box} (hf : FR N G st.E w fr a) (hs : SR st G w0 w) (h : storeOp C fr st.H t x y = some H) :
    ∃ w', (Instr.storeAt t (a.eval x) (a.eval y)).run C.P w = .ok () w' ∧ Ext G st.E w G st.E w' ∧ SR { st with H := H } G w0 w' := by
  unfold storeOp at h
  split at h
  · rename_i i id off v hi hx hy
    split at h
    · rename_i cs hcs
      split at h
      · rename_i hc
        obtain ⟨hc1, hc2⟩ := hc
        cases hp : putAt cs off v.cells with
        | none => simp [hp] at h
        | some cs' =>
          simp [hp] at h; subst h
          have hxv := VR_opd hf hx
          unfold VR at hxv
          obtain ⟨g, hg, hxv⟩ := hxv
          have hyv := VR_opd hf hy
          have hcv := VR_cells hyv
          have hcl := VRL_length hcv
          simp at hcl
          obtain ⟨_, _, b, hb, hR⟩ := hs.box id g hg
          rw [hb] at hcs; injection hcs with hcs; subst hcs
          obtain ⟨arr, e, fz, h1, h2, h3, h4⟩ := hR
          obtain ⟨p1, p2, p3⟩ := putAt_some hp
          have hone : ∀ u ∈ (a.eval y).cells.toList, u.oneCell' = true := by
            intro u hu
            obtain ⟨j, hj⟩ := List.mem_iff_getElem?.1 hu
            have hjl := (List.getElem?_eq_some_iff.1 hj).1
            simp at hjl
            have hj2 : v.cells[j]? = some (v.cells[j]'(by omega)) := List.getElem?_eq_getElem _
            obtain ⟨u', hu', hr⟩ := VRL_get hcv j _ hj2
            rw [hj] at hu'; injection hu' with hu'; subst hu'
            exact VR_one hr (List.all_eq_true.1 hc2 _ (List.mem_of_getElem? hj2))
          obtain ⟨w', hrun, hu⟩ := run_storeCells_fz C.P g off e fz (a.eval y).cells.toList 0 arr w h1 (by simp; omega) h3 hone
          have hx' := Ext_updbox hs hg hu
          refine ⟨w', ?_, hx', SR_updbox hs hg hu ?_⟩
          · have hsz := ty_size (t := t) hi
            simp only [Instr.storeAt, hxv, Instr.sureAddr, Sem.run_bind, Sem.run_pure, Result.andThen_ok, storeVar, hsz]
            rw [if_neg (by simp; omega)]
            exact hrun
          · refine ⟨_, e, fz, hu.here, by simp; omega, ?_, fun j c hj => ?_⟩
            · have hsz' : (arr.toList.take (off + 0) ++ (a.eval y).cells.toList ++ arr.toList.drop (off + 0 + (a.eval y).cells.toList.length)).toArray.size = arr.size := by simp; omega
              rw [hsz']
              exact h3
            · have hpv : putAt arr.toList off (a.eval y).cells.toList = some (arr.toList.take off ++ (a.eval y).cells.toList ++ arr.toList.drop (off + (a.eval y).cells.toList.length)) := by
                unfold putAt; rw [if_pos (by simp; omega)]
              have hget := putAt_get (i := j) hpv
              rw [putAt_get hp] at hj
              simp only [Nat.add_zero, List.getElem?_toArray]
              by_cases hji : off ≤ j ∧ j < off + v.cells.length
              · rw [if_pos hji] at hj
                rw [if_pos (by simp; omega)] at hget
                obtain ⟨u, hu1, hu2⟩ := VRL_get hcv _ _ hj
                exact ⟨List.all_eq_true.1 hc2 _ (List.mem_of_getElem? hj), u, hget.trans hu1, VR_mono hx' _ _ hu2⟩
              · rw [if_neg hji] at hj
                rw [if_neg (by simp; omega)] at hget
                obtain ⟨h5, u, h6, h7⟩ := h4 j c hj
                exact ⟨h5, u, hget.trans (by simpa using h6), VR_mono hx' _ _ h7⟩
      · simp at h
    · simp at h
  · simp at h

theorem set_ok {G : Gh} {E : List Nat} {w : World} {kind : TypeDesc} {key : Value} {x : T} : ∀ {es es' : List (Value × T)} {arr : List MapEntry} (j : Nat), MapR G E w es arr → setT kind key x es = some es' →
    (∃ i v en, Instr.findNow kind key arr j = some (some (j + i, v)) ∧ arr[i]? = some en ∧ Instr.sameBits 10000 en.key key = true ∧ i < es.length ∧ es' = es.set i (key, x)) ∨ (Instr.findNow kind key arr j = some none ∧ es' = es ++ [(key, x)])
  | [], es', arr, j, h, hr => by
    have : arr = [] := by have := h.1; simpa using this
    subst this
    simp [setT] at hr; subst hr
    exact .inr ⟨rfl, rfl⟩
  | e :: es, es', [], j, h, hr => by have := h.1; simp at this
  | (k', t') :: es, es', en :: arr, j, h, hr => by
    obtain ⟨h1, h2, h3⟩ := MapR_tail h
    simp only [setT] at hr
    simp only [Instr.findNow, h1]
    cases hs : Instr.sameNow kind key k' with
    | none => simp [hs] at hr
    | some b =>
      cases b with
      | true =>
        simp only [hs] at hr
        split at hr
        · rename_i hsb
          simp at hr; subst hr
          exact .inl ⟨0, en.val, en, by simp, by simp, by rw [h1]; exact hsb, by simp, by simp⟩
        · simp at hr
      | false =>
        simp only [hs] at hr
        cases hst : setT kind key x es with
        | none => simp [hst] at hr
        | some es2 =>
          simp [hst] at hr; subst hr
          rcases set_ok (j + 1) h3 hst with ⟨i, v, en', a1, a2, a3, a4, a5⟩ | ⟨a1, a2⟩
          · exact .inl ⟨i + 1, v, en', by rw [show j + (i + 1) = j + 1 + i by omega]; exact a1, by simpa using a2, a3, by simp; omega, by simp [a5]⟩
          · exact .inr ⟨a1, by simp [a2]⟩

theorem mapUpd_ok {C : Cfg} {N : Nat} {fr : Fr} {a : Act} {st : St} {G : Gh} {w0 w : World} {t : TypeId} {m k v : Operand} {H : List Box} (hf : FR N G st.E w fr a) (hs : SR st G w0 w) (h : mapUpdOp C fr st.H t m k v = some H) :
    ∃ w', (Instr.mapUpdate t (a.eval m) (a.eval k) (a.eval v)).run C.P w = .ok () w' ∧ Ext G st.E w G st.E w' ∧ SR { st with H := H } G w0 w' := by
  unfold mapUpdOp at h
  split at h
  · rename_i kt et ht
    obtain ⟨ti, hti, htd⟩ := tyD_some ht
    have hu := ty_under hti
    rw [htd] at hu
    split at h
    · rename_i ki key id x hki hk hm hx
      split at h
      · rename_i hc
        obtain ⟨hkd, hkf⟩ := hc
        split at h
        · rename_i es hes
          cases hst : setT ki.desc key x es with
          | none => simp [hst] at h
          | some es' =>
            simp [hst] at h; subst h
            have hmv := VR_opd hf hm
            unfold VR at hmv
            obtain ⟨g, hg, hmv⟩ := hmv
            have hkv := eval_opdV hf hk
            have hxv := VR_opd hf hx
            obtain ⟨_, hlt, b, hb, hR⟩ := hs.box id g hg
            rw [hb] at hes; injection hes with hes; subst hes
            obtain ⟨arr, clock, h1, h2, h3⟩ := hR
            have hMR : MapR G st.E w es arr.toList := ⟨by simpa using h2, by simpa using h3⟩
            have huk := ty_under (t := kt) hki
            have hck := run_checkKey (t := kt) hki hkd false key w
            have upd : ∀ (arr' : Array MapEntry) (clock' : Nat), Upd w { w with heap := w.heap.setIfInBounds g (.map arr' clock') } g (.map arr' clock') := by
              intro arr' clock'
              refine ⟨rfl, rfl, rfl, by simp, fun j hj => ?_, by simp [hlt]⟩
              simp [Array.getElem?_setIfInBounds_ne (Ne.symm hj)]
            have hset : ∀ (arr' : Array MapEntry) (clock' : Nat), (setObj g (.map arr' clock')).run C.P w = .ok () { w with heap := w.heap.setIfInBounds g (.map arr' clock') } := by
              intro arr' clock'
              simp [setObj, Sem.run, h1]
            rcases set_ok 0 hMR hst with ⟨i, v', en, a1, a2, a3, a4, a5⟩ | ⟨a1, a2⟩
            · rw [Nat.zero_add] at a1
              have hfk : (Instr.findKey kt key arr.toList).run C.P w = .ok (some (i, v')) w := by
                simp only [Instr.findKey, Sem.run_bind, huk, Result.andThen_ok, a1, Sem.run_pure]
              have hki2 : ((arr[i]?).map (·.key)).getD key = en.key := by
                simp at a2
                simp [a2]
              have hu' := upd (arr.modify i fun e => { e with key := key, val := a.eval v }) clock
              have hx' := Ext_updbox hs hg hu'
              refine ⟨_, ?_, hx', SR_updbox hs hg hu' ⟨_, clock, hu'.here, by simp [a5, h2], fun j k' t' hj => ?_⟩⟩
              · simp only [Instr.mapUpdate, Sem.run_bind, hu, Result.andThen_ok, hmv, getObj, Sem.run, h1, hkv, hck, hfk, Instr.keyThatStays, hki2, a3, if_true, Sem.run_pure]
                exact hset _ _
              · rw [a5] at hj
                by_cases hij : i = j
                · subst hij
                  simp [a4] at hj
                  obtain ⟨rfl, rfl⟩ := hj
                  refine ⟨hkf, { en with key := key, val := a.eval v }, ?_, rfl, VR_mono hx' _ _ hxv⟩
                  simp at a2
                  simp [Array.getElem?_modify, a2]
                · simp [hij] at hj
                  obtain ⟨b1, en', b2, b3, b4⟩ := h3 j k' t' hj
                  exact ⟨b1, en', by simp [Array.getElem?_modify, hij, b2], b3, VR_mono hx' _ _ b4⟩
            · have hfk : (Instr.findKey kt key arr.toList).run C.P w = .ok none w := by
                simp only [Instr.findKey, Sem.run_bind, huk, Result.andThen_ok, a1, Sem.run_pure]
              have hu' := upd (arr.push { key := key, val := a.eval v, born := clock }) (clock + 1)
              have hx' := Ext_updbox hs hg hu'
              refine ⟨_, ?_, hx', SR_updbox hs hg hu' ⟨_, _, hu'.here, by simp [a2, h2], fun j k' t' hj => ?_⟩⟩
              · simp only [Instr.mapUpdate, Sem.run_bind, hu, Result.andThen_ok, hmv, getObj, Sem.run, h1, hkv, hck, hfk]
                exact hset _ _
              · rw [a2] at hj
                by_cases hij : j < es.length
                · rw [List.getElem?_append_left hij] at hj
                  obtain ⟨b1, en', b2, b3, b4⟩ := h3 j k' t' hj
                  refine ⟨b1, en', ?_, b3, VR_mono hx' _ _ b4⟩
                  rw [Array.getElem?_push, if_neg (by omega)]
                  exact b2
                · rw [List.getElem?_append_right (by omega)] at hj
                  have : j - es.length = 0 := by
                    have := (List.getElem?_eq_some_iff.1 hj).1
                    simp at this
                    omega
                  rw [this] at hj
                  simp at hj
                  obtain ⟨rfl, rfl⟩ := hj
                  refine ⟨hkf, { key := key, val := a.eval v, born := clock }, ?_, rfl, VR_mono hx' _ _ hxv⟩
                  rw [Array.getElem?_push, if_pos (by omega)]
        · simp at h
      · simp at h
    · simp at h
  · simp at h

end Go.Tm
end
section
set_option linter.unusedVariables false
set_option linter.unusedSimpArgs false
namespace Go.Tm
open Go Go.RowKit

theorem tail_ok {P : Program} {st : St} {G : Gh} {w0 w : World} {size m : Nat} {y : T} {xv : Value} {ys : List D} (hs : SR st G w0 w) (hy : VR G st.E w y xv) (h : tailOf st size y = some (m, ys)) :
    ∃ us : List Value, DRs (Im G) w ys us ∧ us.length = m * size ∧ (Builtin.lenOf xv).run P w = .ok m w ∧ (Builtin.firstCells size m xv).run P w = .ok us.toArray w := by
  unfold tailOf at h
  split at h
  · rename_i nl m' ys' o
    split at h
    · rename_i hl
      simp at h
      obtain ⟨rfl, rfl⟩ := h
      unfold VR at hy
      rcases hy with ⟨_, rfl, rfl, rfl⟩ | ⟨_, ad, cap, rfl, _, hD, _⟩
      · exact ⟨[], trivial, by simp, by simp [Builtin.lenOf], by simp [Builtin.firstCells]⟩
      · obtain ⟨us, h1, h2⟩ := DRL_vals hD
        have h3 := DRs_length h1
        refine ⟨us, h1, by omega, by simp [Builtin.lenOf], ?_⟩
        have := run_loadCells_list (P := P) w ad us (fun j v hj => by have := (h2 j v hj).1; rwa [Nat.zero_add] at this)
        rw [h3, hl] at this
        simp [Builtin.firstCells, this]
    · simp at h
  · rename_i s
    split at h
    · rename_i h1
      simp at h
      obtain ⟨rfl, rfl⟩ := h
      unfold VR at hy
      obtain ⟨rfl, _⟩ := hy
      refine ⟨s.data.toList.map fun b => .int .u8 b.toNat, DRs_bytes _, ?_, by simp [Builtin.lenOf], ?_⟩
      · simp [h1]
      · have e1 : s.extract 0 s.size = s := by
          apply ByteArray.ext
          simp
        simp [Builtin.firstCells, e1]
        rw [← Array.toList_map]
    · simp at h
  · rename_i id off m' cap
    split at h
    · rename_i cs hcs
      cases hp : pieceL cs off (m' * size) with
      | none => simp [hp] at h
      | some ts =>
        simp only [hp, Option.bind_some] at h
        cases hd : T.toDs ts with
        | none => simp [hd] at h
        | some ds =>
          simp [hd] at h
          obtain ⟨rfl, rfl⟩ := h
          unfold VR at hy
          obtain ⟨g, c, hg, rfl, _⟩ := hy
          obtain ⟨_, _, b, hb, hR⟩ := hs.box id g hg
          rw [hb] at hcs; injection hcs with hcs; subst hcs
          obtain ⟨arr, e, fz, h1, h2, h3, h4⟩ := hR
          obtain ⟨p1, _, p3⟩ := pieceL_some hp
          have hvs : VRL G st.E w ts ((arr.toList.drop off).take (m' * size)) := by
            refine VRL_mk (by simp; omega) fun j t' v hj hv => ?_
            have hjl : j < m' * size := by have := (List.getElem?_eq_some_iff.1 hj).1; omega
            rw [pieceL_get hp hjl] at hj
            obtain ⟨_, u, hu, hR⟩ := h4 _ _ hj
            simp [List.getElem?_take, List.getElem?_drop, hjl] at hv
            rw [hu] at hv; injection hv with hv; subst hv
            exact hR
          have hlen : ((arr.toList.drop off).take (m' * size)).length = m' * size := by simp; omega
          have hload := run_loadCells_list (P := P) w ⟨g, off, none⟩ ((arr.toList.drop off).take (m' * size)) (fun j v hj => by
            rw [Addr.add_none, cell_of_block h1]
            have hjl : j < m' * size := by have := (List.getElem?_eq_some_iff.1 hj).1; omega
            simpa [List.getElem?_take, List.getElem?_drop, hjl] using hj)
          rw [hlen] at hload
          exact ⟨_, DRs_toDs hvs hd, hlen, by simp [Builtin.lenOf], by simp [Builtin.firstCells, hload]⟩
    · simp at h
  · simp at h

section
variable {P : Program} {w : World} {t u e ty : TypeId} {ei : TyI} {ud : TypeDesc} {base : Option Addr} {n cap m : Nat} {xv : Value} {us : List Value}

theorem run_app_room (hu : ∀ w, (underlying t).run P w = .ok (.slice e) w) (hud : ∀ w, (underlying u).run P w = .ok ud w) (hni : notIntD ud = true) (hei : tyOf P e = some ei)
    (hlen : (Builtin.lenOf xv).run P w = .ok m w) (hfirst : (Builtin.firstCells ei.size m xv).run P w = .ok us.toArray w) (hroom : n + m ≤ cap) :
    (Builtin.append_ #[t, u] ty #[.slice base n cap, xv]).run P w = ((match base with | some a => storeCells (a.add (n * ei.size)) us | none => pure () : Sem Unit).run P w).andThen fun _ w' => .ok (.slice base (n + m) cap) w' := by
  have hsz := ty_size (t := e) hei
  unfold Builtin.append_
  cases ud <;> first
    | (simp [notIntD] at hni; done)
    | (simp only [List.getElem?_toArray, List.getElem?_cons_zero, List.getElem?_cons_succ, Sem.run_bind, hu, Result.andThen_ok, hsz, hud, Sem.run_pure, Bool.false_eq_true, if_false, hlen]
       rw [if_pos hroom]
       simp only [Bool.not_false, if_true, Sem.run_bind, hfirst, Result.andThen_ok]
       cases base with
       | none => simp
       | some a => simp)

theorem run_app_grow (hu : ∀ w, (underlying t).run P w = .ok (.slice e) w) (hud : ∀ w, (underlying u).run P w = .ok ud w) (hni : notIntD ud = true) (hei : tyOf P e = some ei)
    (hlen : (Builtin.lenOf xv).run P w = .ok m w) (hfirst : (Builtin.firstCells ei.size m xv).run P w.drew = .ok us.toArray w.drew) {old : List Value}
    (hold : (Builtin.firstCells ei.size n (.slice base n cap)).run P w.drew = .ok old.toArray w.drew) (hroom : ¬ n + m ≤ cap) (hb0 : 0 < ei.bytes) (hb : (n + m) * ei.bytes ≤ roomB) :
    (Builtin.append_ #[t, u] ty #[.slice base n cap, xv]).run P w = .ok (.slice (some ⟨w.heap.size, 0, none⟩) (n + m) (grownCap w (n + m) cap e))
      (w.drew.alloc (.cells (old.toArray ++ us.toArray ++ Builtin.zeroCells ei.zero.cells (grownCap w (n + m) cap e - (n + m))) e)) := by
  have hsz := ty_size (t := e) hei
  obtain ⟨ti, hinfo, h1, h2, h3⟩ := ty_info (t := e) hei
  have hzero := ty_zero (t := e) hei
  have hnm : n + m ≤ roomB := Nat.le_trans (Nat.le_mul_of_pos_right _ hb0) hb
  have hfit := growslice_fits (need := n + m) (old := cap) (bytes := ei.bytes) (by omega) (by unfold roomB at hb; exact hb)
  have h48 : ¬ (Builtin.nextslicecap (n + m) cap * ti.bytes > 2 ^ 48) := by rw [h2]; omega
  have hroomrun : ∀ k w, (askRoom k).run P w = .ok () w := fun k w => by unfold askRoom; split <;> rfl
  have hcond' : ¬ (((n + m : Nat) : Int) > IntKind.i64.max ∧ ti.bytes = 0) := by rw [h2]; rintro ⟨_, h⟩; omega
  have hchoose : (choose (.appendCap (n + m) cap e)).run P w = .ok (grownCap w (n + m) cap e) w.drew := rfl
  unfold Builtin.append_
  cases ud <;> first
    | (simp [notIntD] at hni; done)
    | (simp only [List.getElem?_toArray, List.getElem?_cons_zero, List.getElem?_cons_succ, Sem.run_bind, hu, Result.andThen_ok, hsz, hud, Sem.run_pure, Bool.false_eq_true, if_false, hlen]
       rw [if_neg hroom]
       simp only [hinfo, Sem.run_bind, Result.andThen_ok, false_or]
       rw [if_neg hcond']
       simp only [hinfo, Sem.run_bind, Result.andThen_ok, false_or]
       rw [if_neg h48]
       simp only [Sem.run_bind, Result.andThen_ok, hchoose, hinfo, hroomrun, hold, Bool.not_false, if_true, hfirst, hzero, newRow, newObj, Sem.run, Sem.run_pure]
       rfl)
end

theorem keep_drew {B : Nat} (w : World) : Keep B w w.drew := ⟨rfl, rfl, rfl, Nat.le_refl _, fun _ _ => rfl, fun _ _ => .inl rfl⟩

/-- An append that makes a new row: what it leaves. -/
theorem grown_ok {st : St} {G : Gh} {w0 w : World} {e : TypeId} {ei : TyI} {n m cap : Nat} {cs ys : List D} {old us : List Value} (hs : SR st G w0 w) (hc : DRs (Im G) w cs old) (hy : DRs (Im G) w ys us)
    (ho : old.length = n * ei.size) (hu : us.length = m * ei.size) (hsz : 0 < ei.size) (hz : ei.zero.cells.size = ei.size) :
    ∀ w', w' = w.drew.alloc (.cells (old.toArray ++ us.toArray ++ Builtin.zeroCells ei.zero.cells (grownCap w (n + m) cap e - (n + m))) e) →
      Keep G.B w w' ∧ ∃ arr, w'.heap[w.heap.size]? = some (.cells arr e (0, 0)) ∧ arr.size = grownCap w (n + m) cap e * ei.size ∧ n + m ≤ grownCap w (n + m) cap e ∧ (∀ (j : Nat) (u : Value), (old ++ us)[j]? = some u → arr[j]? = some u) ∧
      DRs (Im G) w (cs ++ ys) (old ++ us) ∧ (∀ j, j < w.heap.size → w'.heap[j]? = w.heap[j]?) := by
  rintro w' rfl
  have hge := grownCap_ge w (n + m) cap e
  have hk : Keep G.B w (w.drew.alloc (.cells (old.toArray ++ us.toArray ++ Builtin.zeroCells ei.zero.cells (grownCap w (n + m) cap e - (n + m))) e)) := (keep_drew w).trans (keep_alloc _ hs.base)
  refine ⟨hk, _, heap_new w.drew _, ?_, hge, fun j u hj => ?_, DRs_append hc hy, fun j hj => by
    show (w.drew.alloc _).heap[j]? = _
    simp only [World.alloc, World.drew]
    rw [Array.getElem?_push_lt (by exact hj)]
    exact (Array.getElem?_eq_getElem hj).symm⟩
  · simp only [Array.size_append, List.size_toArray, size_zeroCells, ho, hu, hz, ← Nat.add_mul]
    congr 1
    omega
  · have hjl := (List.getElem?_eq_some_iff.1 hj).1
    rw [Array.getElem?_append_left (by simp; simp at hjl; omega)]
    simpa using hj

/-- What an append that made a row of its own tells of it. -/
def FreshA (G : Gh) (st st' : St) (w w' : World) (r : T) (v : Value) : Prop :=
  ∀ n cs, r = .sl false n cs (.tok st.E.length) → st'.E = st.E ++ [n] → ∃ cap arr e us, v = .slice (some ⟨w.heap.size, 0, none⟩) n cap ∧ n ≤ cap ∧ Keep G.B w w' ∧ w.heap.size < w'.heap.size ∧
    w'.heap[w.heap.size]? = some (.cells arr e (0, 0)) ∧ cs.length ≤ arr.size ∧ DRs (Im G) w cs us ∧ ∀ (j : Nat) (u : Value), us[j]? = some u → arr[j]? = some u
theorem FreshA.set {G : Gh} {st st' : St} {w w' : World} {r : T} {v : Value} {k m : Nat} (h : st'.E = st.E.set k m) : FreshA G st st' w w' r v := fun n cs _ h2 => by
  rw [h] at h2
  have := congrArg List.length h2
  simp at this
theorem FreshA.same {G : Gh} {st : St} {w w' : World} {r : T} {v : Value} : FreshA G st st w w' r v := fun n cs _ h2 => by
  have := congrArg List.length h2
  simp at this

theorem append_ok {C : Cfg} {N : Nat} {fr : Fr} {a : Act} {st st' : St} {G : Gh} {w0 w : World} {t u ty : TypeId} {s x : Operand} {r : T} (hf : FR N G st.E w fr a) (hs : SR st G w0 w) (h : appendOp C fr st t u s x = some (r, st')) :
    ∃ v w' G', (Builtin.append_ #[t, u] ty #[a.eval s, a.eval x]).run C.P w = .ok v w' ∧ Ext G st.E w G' st'.E w' ∧ SR st' G' w0 w' ∧ VR G' st'.E w' r v ∧ st'.H = st.H ∧ G'.bx = G.bx ∧ FreshA G st st' w w' r v := by
  unfold appendOp at h
  split at h
  · rename_i e nl n cs o y ht hso hx
    obtain ⟨ti, hti, htd⟩ := tyD_some ht
    have hu := ty_under hti
    rw [htd] at hu
    split at h
    · rename_i ei ud hei hud
      obtain ⟨ui, hui, huid⟩ := tyD_some hud
      have hudr := ty_under hui
      rw [huid] at hudr
      split at h
      · rename_i hc
        obtain ⟨hlen, hsz, hby, hni, hzl⟩ := hc
        have hzs : ei.zero.cells.size = ei.size := by
          cases hz : T.ofVal ei.zero with
          | none => simp [hz] at hzl
          | some z =>
            simp [hz] at hzl
            have := VRL_length (VR_cells (VR_ofVal (G := G) (E := st.E) (w := w) hz))
            simp at this
            omega
        split at h
        · rename_i m ys htl
          have hsv := VR_opd hf hso
          obtain ⟨us, hy, hul, hlenr, hfr⟩ := tail_ok (P := C.P) hs (VR_opd hf hx) htl
          split at h
          · rename_i hm0
            subst hm0
            simp at h
            obtain ⟨rfl, rfl⟩ := h
            obtain rfl : us = [] := List.eq_nil_of_length_eq_zero (by simpa using hul)
            obtain ⟨base, cap, hbase, hcap⟩ : ∃ base cap, a.eval s = .slice base n cap ∧ n ≤ cap := by
              have := hsv
              unfold VR at this
              rcases this with ⟨_, rfl, _, hv⟩ | ⟨_, ad, cap, hv, hcap, _⟩
              · exact ⟨none, 0, hv, Nat.le_refl _⟩
              · exact ⟨some ad, cap, hv, hcap⟩
            have hr := run_app_room (ty := ty) (base := base) (cap := cap) hu hudr hni hei hlenr hfr (by omega)
            refine ⟨a.eval s, w, G, ?_, Ext.refl _ _ _, hs, hsv, rfl, rfl, FreshA.same⟩
            rw [hbase, hr]
            cases base <;> simp [storeCells]
          · rename_i hm0
            split at h
            · rename_i hroom
              -- a new row: what both ways to it share
              have hs1 := SR_keep hs (keep_drew w)
              obtain ⟨us1, hy1, hul1, hlenr1, hfr1⟩ := tail_ok (P := C.P) hs1 (VR_mono (Ext_keep (keep_drew (B := G.B) w)) _ _ (VR_opd hf hx)) htl
              have hy1' : DRs (Im G) w ys us1 := DRs_mono (w := w.drew) (w' := w) (fun a ha _ => ⟨ha, rfl⟩) hy1
              have grow : ∀ (base : Option Addr) (cap : Nat), a.eval s = .slice base n cap → (n = 0 ∧ cs = [] ∧ base = none ∨ ∃ ad, base = some ad ∧ DRL (Im G) w ad 0 cs) → ¬ n + m ≤ cap →
                  ∃ w' arr old, (Builtin.append_ #[t, u] ty #[a.eval s, a.eval x]).run C.P w = .ok (.slice (some ⟨w.heap.size, 0, none⟩) (n + m) (grownCap w (n + m) cap e)) w' ∧ Keep G.B w w' ∧ w.heap.size < w'.heap.size ∧
                    w'.heap[w.heap.size]? = some (.cells arr e (0, 0)) ∧ arr.size = grownCap w (n + m) cap e * ei.size ∧ n + m ≤ grownCap w (n + m) cap e ∧ (∀ (j : Nat) (u : Value), (old ++ us1)[j]? = some u → arr[j]? = some u) ∧
                    DRs (Im G) w (cs ++ ys) (old ++ us1) ∧ (∀ j, j < w.heap.size → w'.heap[j]? = w.heap[j]?) := by
                intro base cap hev hb hnr
                obtain ⟨old, ho1, ho2, ho3⟩ : ∃ old : List Value, DRs (Im G) w cs old ∧ old.length = n * ei.size ∧ (Builtin.firstCells ei.size n (.slice base n cap)).run C.P w.drew = .ok old.toArray w.drew := by
                  rcases hb with ⟨rfl, rfl, rfl⟩ | ⟨ad, rfl, hD⟩
                  · exact ⟨[], trivial, by simp, by simp [Builtin.firstCells]⟩
                  · obtain ⟨old, h1, h2⟩ := DRL_vals hD
                    have h3 := DRs_length h1
                    have hl := run_loadCells_list (P := C.P) w.drew ad old (fun j v hj => by have := (h2 j v hj).1; rwa [Nat.zero_add] at this)
                    rw [h3, hlen] at hl
                    exact ⟨old, h1, by omega, by simp only [Builtin.firstCells]; exact hl⟩
                have hr := run_app_grow (ty := ty) (base := base) (cap := cap) hu hudr hni hei hlenr hfr1 ho3 hnr hby hroom
                obtain ⟨k1, arr, k2, k3, k4, k5, k6, k7⟩ := grown_ok (cap := cap) (e := e) hs ho1 hy1' ho2 hul1 hsz hzs _ rfl
                exact ⟨_, arr, old, by rw [hev]; exact hr, k1, by simp, k2, k3, k4, k5, k6, k7⟩
              -- the new row under its token
              have rowOf : ∀ {w' : World} {arr : Array Value} {old : List Value} {newcap k : Nat} {G' : Gh} {E' : List Nat}, Keep G.B w w' → Ext G st.E w G' E' w' → (∀ (j : Nat) (u : Value), (old ++ us1)[j]? = some u → arr[j]? = some u) → DRs (Im G) w (cs ++ ys) (old ++ us1) →
                  w'.heap[w.heap.size]? = some (.cells arr e (0, 0)) → (∀ id g, G'.bx id = some g → g ≠ w.heap.size) → (∀ j r, G'.tk j = some r → r.g = w.heap.size → (n + m) * ei.size ≤ r.u) → DRL (Im G') w' ⟨w.heap.size, 0, none⟩ 0 (cs ++ ys) := by
                intro w' arr old newcap k G' E' hk hx5 h5 h6 hh hbx htk
                refine DRL_of_vals (DRs_mono hx5.im h6) fun j u hj => ?_
                rw [Addr.add_none, Nat.zero_add, cell_of_block hh]
                refine ⟨h5 j u hj, .inr ⟨by rw [hx5.B]; exact hs.base, fun id g hg e => hbx id g hg e.symm, fun i r hi he => ?_⟩⟩
                have hlj := (List.getElem?_eq_some_iff.1 hj).1
                have := htk i r hi he.symm
                have hl2 := DRs_length h6
                simp only [List.length_append] at hl2 hlj
                have hcs2 : ys.length = m * ei.size := by
                  have := DRs_length hy1'
                  omega
                show j < r.u
                rw [Nat.add_mul] at this
                omega
              have fresh : ∀ (base : Option Addr) (cap : Nat), a.eval s = .slice base n cap → (n = 0 ∧ cs = [] ∧ base = none ∨ ∃ ad, base = some ad ∧ DRL (Im G) w ad 0 cs) → cap = n →
                  r = .sl false (n + m) (cs ++ ys) (.tok st.E.length) → st' = { st with E := st.E ++ [n + m] } →
                  ∃ v w' G', (Builtin.append_ #[t, u] ty #[a.eval s, a.eval x]).run C.P w = .ok v w' ∧ Ext G st.E w G' st'.E w' ∧ SR st' G' w0 w' ∧ VR G' st'.E w' r v ∧ st'.H = st.H ∧ G'.bx = G.bx ∧ FreshA G st st' w w' r v := by
                intro base cap hev hb hcn hr hst
                subst hr hst
                obtain ⟨w', arr, old, h1, h2, h3, h4, h5, h6, h7, h8, h9⟩ := grow base cap hev hb (by omega)
                have hx5 := Ext_newtok (w1 := w') (r := ⟨w.heap.size, (n + m) * ei.size, grownCap w (n + m) cap e, ei.size⟩) (n := n + m) hs (fun a ha => h2.cell ha) (Nat.le_refl _)
                refine ⟨_, w', _, h1, hx5, SR_newtok hs h2 hx5 hs.base h3 hsz rfl h6 h4 h5 (.inl rfl) (fun i x hi => ?_) (fun i r hi => ?_), ?_, rfl, rfl, ?_⟩
                · have := (hs.box i x hi).2.1; simp; omega
                · have := (hs.tok i r hi).2.1; simp; omega
                · unfold VR
                  refine .inr ⟨rfl, _, _, rfl, h6, rowOf (newcap := 0) (k := 0) h2 hx5 h7 h8 h4 (fun id g hg => ?_) (fun j r hj he => ?_), ?_, ?_, fun _ => ⟨⟨w.heap.size, (n + m) * ei.size, grownCap w (n + m) cap e, ei.size⟩, by simp [Gh.tok], rfl, rfl, ?_, by omega⟩⟩
                  · have := (hs.box id g hg).2.1; omega
                  · simp only [Gh.tok] at hj
                    split at hj
                    · injection hj with hj; subst hj; exact Nat.le_refl _
                    · have := (hs.tok j r hj).2.1; omega
                  · simp
                  · simp
                  · have := DRs_length hy1'
                    simp only [List.length_append, Nat.add_mul]
                    omega
                · intro n' cs' hr' _
                  simp only [T.sl.injEq, true_and] at hr'
                  obtain ⟨rfl, rfl, _⟩ := hr'
                  refine ⟨grownCap w (n + m) cap e, arr, e, old ++ us1, rfl, h6, h2, h3, h4, ?_, h8, h7⟩
                  have hy3 := DRs_length hy1'
                  have hy4 : ys.length = m * ei.size := by omega
                  rw [h5, List.length_append, hlen, hy4, ← Nat.add_mul]
                  exact Nat.mul_le_mul_right _ h6
              have exact_ : (o = .ex ∨ o = .lit) → r = .sl false (n + m) (cs ++ ys) (.tok st.E.length) → st' = { st with E := st.E ++ [n + m] } →
                  ∃ v w' G', (Builtin.append_ #[t, u] ty #[a.eval s, a.eval x]).run C.P w = .ok v w' ∧ Ext G st.E w G' st'.E w' ∧ SR st' G' w0 w' ∧ VR G' st'.E w' r v ∧ st'.H = st.H ∧ G'.bx = G.bx ∧ FreshA G st st' w w' r v := by
                intro ho hr hst
                have h := hsv
                unfold VR at h
                rcases h with ⟨_, rfl, rfl, hv⟩ | ⟨_, ad, cap, hv, hcap, hD, hO⟩
                · exact fresh none 0 hv (.inl ⟨rfl, rfl, rfl⟩) rfl hr hst
                · refine fresh (some ad) cap hv (.inr ⟨ad, rfl, hD⟩) ?_ hr hst
                  rcases ho with rfl | rfl
                  · exact hO
                  · exact hO.1
              cases o with
              | ro => simp at h
              | ex => simp at h; exact exact_ (.inl rfl) h.1.symm h.2.symm
              | lit => simp at h; exact exact_ (.inr rfl) h.1.symm h.2.symm
              | tok k =>
                simp only at h
                split at h
                · rename_i hc
                  obtain ⟨hEk, rfl, hn0⟩ := hc
                  simp at h
                  obtain ⟨rfl, rfl⟩ := h
                  have hv := hsv
                  unfold VR at hv
                  rcases hv with ⟨hv, _⟩ | ⟨_, ad, cap, hv, hcap, hD, hk1, hk2, hk3⟩
                  · cases hv
                  · obtain ⟨q, hq, rfl, rfl, hql, hq1⟩ := hk3 hEk
                    obtain ⟨t1, t2, t3, ⟨n', t4, t5, t6⟩, arr0, e0, fz, t7, t8, t9⟩ := hs.tok k q hq
                    rw [hEk] at t4; injection t4 with t4; subst t4
                    have hqs : q.sz = ei.size := by
                      rw [hlen] at hql
                      by_cases hnz : n = 0
                      · rw [hq1 hnz]
                        rcases hn0 with hn0 | hn0
                        · omega
                        · exact hn0.symm
                      · exact (Nat.eq_of_mul_eq_mul_left (by omega) hql).symm
                    by_cases hroom2 : n + m ≤ q.cap
                    · -- in place
                      have hr := run_app_room (ty := ty) (base := some ⟨q.g, 0, none⟩) (cap := q.cap) hu hudr hni hei hlenr hfr hroom2
                      have hfit : n * ei.size + us.length ≤ arr0.size := by
                        rw [t8, hqs, hul, ← Nat.add_mul]
                        exact Nat.mul_le_mul_right _ hroom2
                      have hone : ∀ v ∈ us, v.oneCell' = true := by
                        intro v hv
                        obtain ⟨j, hj⟩ := List.mem_iff_getElem?.1 hv
                        have hjl := (List.getElem?_eq_some_iff.1 hj).1
                        rw [DRs_length hy] at hjl
                        obtain ⟨v', hv', hd⟩ := DRs_get hy j _ (List.getElem?_eq_getElem hjl)
                        rw [hj] at hv'; injection hv' with hv'; subst hv'
                        exact DR_one hd
                      obtain ⟨w', hst, hu'⟩ := run_storeCells_fz C.P q.g (n * ei.size) e0 fz us 0 arr0 w t7 (by omega) t9 hone
                      have hg : ∀ (j : Nat), (arr0.toList.take (n * ei.size + 0) ++ us ++ arr0.toList.drop (n * ei.size + 0 + us.length)).toArray[j]? = if n * ei.size ≤ j ∧ j < n * ei.size + us.length then us[j - n * ei.size]? else arr0[j]? := by
                        intro j
                        have hp : putAt arr0.toList (n * ei.size) us = some (arr0.toList.take (n * ei.size) ++ us ++ arr0.toList.drop (n * ei.size + us.length)) := by unfold putAt; rw [if_pos (by simpa using hfit)]
                        have := putAt_get (i := j) hp
                        simp only [Nat.add_zero, List.getElem?_toArray]
                        rw [this]
                        simp
                      have hsize : (arr0.toList.take (n * ei.size + 0) ++ us ++ arr0.toList.drop (n * ei.size + 0 + us.length)).toArray.size = arr0.size := by simp; omega
                      have him : ∀ a, Im G a → (w.cell? a).isSome = true → Im (G.tok k { q with u := (n + m) * q.sz }) a ∧ w'.cell? a = w.cell? a := by
                        intro a ha hsome
                        constructor
                        · rcases ha with ha | ⟨a1, a2, a3⟩
                          · exact .inl ha
                          · refine .inr ⟨a1, a2, fun i r hi he => ?_⟩
                            simp only [Gh.tok] at hi
                            split at hi
                            · injection hi with hi; subst hi
                              have := a3 k q hq he
                              simp only
                              rw [Nat.add_mul]
                              omega
                            · exact a3 i r hi he
                        · by_cases hb : a.block = q.g
                          · have hoff : a.off < n * ei.size := by
                              rcases ha with ⟨ha, _⟩ | ⟨_, _, a3⟩
                              · omega
                              · have := a3 k q hq hb
                                rw [t5, hqs] at this
                                exact this
                            have hsp := cell_spot hsome
                            obtain ⟨ab, ao, asp⟩ := a
                            simp at hb hsp hoff
                            subst hb hsp
                            rw [cell_of_block hu'.here, cell_of_block t7, hg, if_neg (by omega)]
                          · exact hu'.cell_ne hb
                      have hx5 := Ext_growtok (ob := .map #[] 0) (r' := { q with u := (n + m) * q.sz }) (n' := n + m) hs hq hEk (by omega) him
                      have hsr := SR_growtok (r' := { q with u := (n + m) * q.sz }) (n' := n + m) hs hq hEk hx5 (hs.below.trans ⟨hu'.os, hu'.tape, hu'.output, by rw [hu'.size]; exact Nat.le_refl _, fun j hj => hu'.other j (by omega)⟩) (by rw [hu'.size]; exact Nat.le_refl _)
                        (fun j _ hj => hu'.other j hj) t1 (by rw [hu'.size]; exact t2) t3 rfl hroom2 hu'.here (by rw [hsize]; exact t8) (by rw [hsize]; exact t9) (fun i x hi => hs.apart i x k q hi hq) (fun j s hj hs' he => hj (hs.tokInj j k s q hs' hq he))
                      refine ⟨.slice (some ⟨q.g, 0, none⟩) (n + m) q.cap, w', _, ?_, hx5, hsr, ?_, rfl, rfl, FreshA.set rfl⟩
                      · rw [hv, hr]
                        simp only [Addr.add_none, Nat.zero_add]
                        rw [hst]
                        rfl
                      · have hkl := (List.getElem?_eq_some_iff.1 hEk).1
                        unfold VR
                        refine .inr ⟨rfl, _, _, rfl, hroom2, ?_, by simpa using hkl, by simp [hkl], fun _ => ⟨{ q with u := (n + m) * q.sz }, by simp [Gh.tok], rfl, rfl, ?_, by omega⟩⟩
                        · obtain ⟨old, o1, o2⟩ := DRL_vals hD
                          have o3 := DRs_length o1
                          refine DRL_of_vals (us := old ++ us) (DRs_mono him (DRs_append o1 hy)) fun j v hj => ?_
                          rw [Addr.add_none, Nat.zero_add, cell_of_block hu'.here, hg]
                          have hjl := (List.getElem?_eq_some_iff.1 hj).1
                          simp at hjl
                          refine ⟨?_, .inr ⟨t1, fun id g hg' => (fun e => hs.apart id g k q hg' hq e.symm), fun i r hi he => ?_⟩⟩
                          · by_cases hjo : j < old.length
                            · rw [List.getElem?_append_left hjo] at hj
                              rw [if_neg (by omega)]
                              have := (o2 j v hj).1
                              rw [Nat.zero_add, Addr.add_none, Nat.zero_add, cell_of_block t7] at this
                              exact this
                            · rw [List.getElem?_append_right (by omega)] at hj
                              rw [if_pos (by omega), show j - n * ei.size = j - old.length by omega]
                              exact hj
                          · simp only [Gh.tok] at hi
                            split at hi
                            · injection hi with hi; subst hi
                              show j < (n + m) * q.sz
                              rw [hqs, Nat.add_mul]
                              omega
                            · rename_i hne
                              exact absurd (hs.tokInj i k r q hi hq he.symm) hne
                        · have := DRs_length hy
                          simp only [List.length_append, Nat.add_mul, hqs]
                          omega
                    · -- a new row
                      obtain ⟨w', arr, old, h1, h2, h3, h4, h5, h6, h7, h8, h9⟩ := grow (some ⟨q.g, 0, none⟩) q.cap hv (.inr ⟨_, rfl, hD⟩) hroom2
                      have him : ∀ a, Im G a → (w.cell? a).isSome = true → Im (G.tok k ⟨w.heap.size, (n + m) * ei.size, grownCap w (n + m) q.cap e, ei.size⟩) a ∧ w'.cell? a = w.cell? a := by
                        intro a ha hsome
                        refine ⟨?_, h2.cell hsome⟩
                        rcases ha with ha | ⟨a1, a2, a3⟩
                        · exact .inl ha
                        · refine .inr ⟨a1, a2, fun i r hi he => ?_⟩
                          simp only [Gh.tok] at hi
                          split at hi
                          · injection hi with hi; subst hi
                            have := cell_lt hsome
                            simp at he
                            omega
                          · exact a3 i r hi he
                      have hx5 := Ext_growtok (ob := .map #[] 0) (r' := ⟨w.heap.size, (n + m) * ei.size, grownCap w (n + m) q.cap e, ei.size⟩) (n' := n + m) hs hq hEk (by omega) him
                      have hs2 := SR_keep hs h2
                      have hsr := SR_growtok (r' := ⟨w.heap.size, (n + m) * ei.size, grownCap w (n + m) q.cap e, ei.size⟩) (n' := n + m) (w1 := w') hs hq hEk hx5 hs2.below h2.size
                        (fun j hj _ => h9 j hj) hs.base h3 hsz rfl h6 h4 h5 (.inl rfl) (fun i x hi => by have := (hs.box i x hi).2.1; simp; omega) (fun j s hj hs' => by have := (hs.tok j s hs').2.1; simp; omega)
                      refine ⟨_, w', _, h1, hx5, hsr, ?_, rfl, rfl, FreshA.set rfl⟩
                      have hkl := (List.getElem?_eq_some_iff.1 hEk).1
                      unfold VR
                      refine .inr ⟨rfl, _, _, rfl, h6, rowOf (newcap := 0) (k := 0) h2 hx5 h7 h8 h4 (fun id g hg => ?_) (fun j r hj he => ?_), by simpa using hkl, by simp [hkl], fun _ => ⟨⟨w.heap.size, (n + m) * ei.size, grownCap w (n + m) q.cap e, ei.size⟩, by simp [Gh.tok], rfl, rfl, ?_, by omega⟩⟩
                      · have := (hs.box id g hg).2.1; omega
                      · simp only [Gh.tok] at hj
                        split at hj
                        · injection hj with hj; subst hj; exact Nat.le_refl _
                        · have := (hs.tok j r hj).2.1; omega
                      · have := DRs_length hy1'
                        simp only [List.length_append, Nat.add_mul]
                        omega
                · simp at h
            · simp at h
        · simp at h
      · simp at h
    · simp at h
  · simp at h

end Go.Tm
end
