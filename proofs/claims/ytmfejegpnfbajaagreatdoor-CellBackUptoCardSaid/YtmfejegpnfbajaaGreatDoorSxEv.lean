/-
  An abstract machine for Go code: a deterministic evaluator over an abstract heap.
  Abstract block numbers stand for real ones; a slice whose capacity Go leaves open bears the number 'unk + size of an element'.
-/
import Derived.Orders
namespace Go.Proofs.YtmfejegpnfbajaaGreatDoor
namespace Sx

/-- An abstract block: cells (wide: there may be more cells behind), cells to read (there may be more), another object, or one that nobody may use any more. -/
inductive Blk where
  | cells (c : List Value) (elem : TypeId) (wide : Bool)
  | tab (c : List Value)
  | obj (o : Obj)
  | dead
  deriving Inhabited

def unk : Nat := 2 ^ 64

def fnOk : Fn → Bool
  | .yield _ => false
  | _ => true

/-- No address in it. -/
def flat : Nat → Value → Bool
  | _, .bool _ => true
  | _, .int .. => true
  | _, .float .. => true
  | _, .complex .. => true
  | _, .string _ => true
  | _, .nilFunc => true
  | _, .nilIface => true
  | _, .pointer none => true
  | _, .slice none _ _ => true
  | _, .map none => true
  | _, .chan none => true
  | n + 1, .iface _ v => flat n v
  | n + 1, .agg cs => cs.toList.all (flat n)
  | n + 1, .tuple cs => cs.toList.all (flat n)
  | n + 1, .func fn fs cs => fnOk fn && fs.toList.all (flat n) && cs.toList.all (flat n)
  | _, _ => false

def isFlat (v : Value) : Bool := flat 8 v

/-- A tree that neither reads nor writes memory. -/
def pureRun {α : Type} (P : Program) : Sem α → Option α
  | .pure a => some a
  | .program k => pureRun P (k P)
  | .mark _ k => pureRun P k
  | .choose q k => if q.forced then pureRun P (k 0) else none
  | _ => none

structure Ctx where
  P : Program
  F : FuncId → Option Func
  ro : Nat
  globs : Nat
  K : FuncId → Option (List Value → List Blk → Option (Value × List Blk))
  E : FuncId → Option (List Value → Option Value)

section
variable (P : Program)

def sizeT (t : TypeId) : Option Nat := (P.info? t).map (·.size)
def isAggT (t : TypeId) : Option Bool :=
  match P.underlying t with
  | some (.struct _) => some true
  | some (.array ..) => some true
  | some _ => some false
  | none => none
def zeroT (t : TypeId) : Option (List Value) :=
  match (P.info? t).bind (·.zero) with
  | some v => if v.cells.toList.all isFlat then some v.cells.toList else none
  | none => none

def cellOk : Value → Bool
  | .agg _ => false
  | .tuple _ => false
  | _ => true

def rd (h : List Blk) (a : Addr) (n : Nat) : Option (List Value) :=
  if a.spot.isSome then none else
  match h[a.block]? with
  | some (.cells c _ _) => if a.off + n ≤ c.length then some ((c.drop a.off).take n) else none
  | some (.tab c) => if a.off + n ≤ c.length then some ((c.drop a.off).take n) else none
  | _ => none

def wr (ro : Nat) (h : List Blk) (a : Addr) (vs : List Value) : Option (List Blk) :=
  if a.spot.isSome then none else
  if a.block < ro then none else
  match h[a.block]? with
  | some (.cells c e wd) =>
    if a.off + vs.length ≤ c.length && vs.all cellOk then some (h.set a.block (.cells (c.take a.off ++ (vs ++ c.drop (a.off + vs.length))) e wd)) else none
  | _ => none

def loadA (h : List Blk) (t : TypeId) : Value → Option Value
  | .pointer (some a) => do
    if (← isAggT P t) then
      let n ← sizeT P t
      let c ← rd h a n
      some (.agg c.toArray)
    else
      match ← rd h a 1 with
      | [v] => some v
      | _ => none
  | _ => none

def storeA (ro : Nat) (h : List Blk) (t : TypeId) (addr v : Value) : Option (List Blk) :=
  match addr with
  | .pointer (some a) => do
    let n ← sizeT P t
    if v.cells.size = n then wr ro h a v.cells.toList else none
  | _ => none

def newA (h : List Blk) (b : Blk) : Nat × List Blk := (h.length, h ++ [b])

def fieldA (s : TypeId) (x : Value) (f : Nat) : Option Value :=
  match P.underlying s, x with
  | some (.struct fields), .pointer (some a) => do
    let fd ← fields[f]?
    let n ← sizeT P fd.type
    if n = 0 then none else some (.pointer (some (a.add fd.offset)))
  | _, _ => none

def indexA (t : TypeId) (x ix : Value) : Option Value :=
  match ix, P.underlying t, x with
  | .int _ i, some (.array len elem), .pointer (some a) => do
    let n ← sizeT P elem
    if 0 ≤ i ∧ i < len then some (.pointer (some (a.add (i.toNat * n)))) else none
  | .int _ i, some (.slice elem), .slice (some a) len _ => do
    let n ← sizeT P elem
    if 0 ≤ i ∧ i < len then some (.pointer (some (a.add (i.toNat * n)))) else none
  | _, _, _ => none

/-- A bound of a slice: none: not told. -/
def bnd : Option Value → Option (Option Nat)
  | none => some none
  | some (.int _ i) => if 0 ≤ i then some (some i.toNat) else none
  | _ => none

def bounds (len cap : Nat) (lo hi mx : Option Nat) : Option (Nat × Nat × Nat) :=
  let m := mx.getD cap
  let h := hi.getD len
  let l := lo.getD 0
  if mx.isSome && hi.isNone then none else
  if l ≤ h ∧ h ≤ m ∧ m ≤ cap then some (l, h, m) else none

def sliceA (t : TypeId) (x : Value) (lo hi mx : Option Value) : Option Value := do
  let lo ← bnd lo
  let hi ← bnd hi
  let mx ← bnd mx
  match P.underlying t, x with
  | some (.array n elem), .pointer (some a) => do
    let sz ← sizeT P elem
    let (l, h, m) ← bounds n n lo hi mx
    if n < unk then some (.slice (some (if m = l then a else a.add (l * sz))) (h - l) (m - l)) else none
  | some (.slice elem), .slice none len cap => do
    let _ ← sizeT P elem
    let (l, h, m) ← bounds len cap lo hi mx
    some (.slice none (h - l) (m - l))
  | some (.slice elem), .slice (some a) len cap => do
    let sz ← sizeT P elem
    if cap < unk then
      let (l, h, m) ← bounds len cap lo hi mx
      some (.slice (some (if m = l then a else a.add (l * sz))) (h - l) (m - l))
    else
      if cap ≠ unk + sz || unk ≤ len then none else
      let (l, h, m) ← bounds len len lo hi mx
      if mx.isSome then some (.slice (some (if m = l then a else a.add (l * sz))) (h - l) (m - l))
      else if l = 0 || l < h then some (.slice (some (a.add (l * sz))) (h - l) cap)
      else none
  | _, _ => none

def makeSliceA (h : List Blk) (t : TypeId) (len cap : Value) : Option (Value × List Blk) :=
  match P.underlying t, len, cap with
  | some (.slice elem), .int _ l, .int _ c => do
    let info ← P.info? elem
    let z ← zeroT P elem
    if 0 ≤ l ∧ l ≤ c ∧ c < 2 ^ 47 ∧ c * (info.bytes : Int) ≤ 2 ^ 47 ∧ z.length = info.size ∧ 0 < info.size ∧ z.all cellOk then
      let n := c.toNat * info.size
      some (.slice (some ⟨h.length, 0, none⟩) l.toNat c.toNat, h ++ [.cells (((Array.range n).map (z.toArray[· % z.length]!)).toList) elem false])
    else none
  | _, _, _ => none

def buildA (t : TypeId) (parts : List (Nat × Value)) : Option Value := do
  let z ← zeroT P t
  match P.underlying t with
  | some (.struct fields) => do
    let places ← fields.toList.mapM fun f => do
      let n ← sizeT P f.type
      some (f.offset, n)
    let cells ← Instr.fill (places.toArray[·]?) z.toArray parts
    some (.agg cells)
  | some (.array _ elem) => do
    let n ← sizeT P elem
    let cells ← Instr.fill (fun i => some (i * n, n)) z.toArray parts
    some (.agg cells)
  | _ => none

def buildSliceA (h : List Blk) (t : TypeId) (len : Nat) (parts : List (Nat × Value)) : Option (Value × List Blk) :=
  match P.underlying t with
  | some (.slice elem) => do
    let n ← sizeT P elem
    let z ← zeroT P elem
    if len * n ≤ 2 ^ 20 ∧ 0 < n ∧ z.length = n then
      let cells ← Instr.fill (fun i => some (i * n, n)) ((Array.range (len * n)).map (z.toArray[· % z.length]!)) parts
      if cells.toList.all cellOk then some (.slice (some ⟨h.length, 0, none⟩) len len, h ++ [.cells cells.toList elem false]) else none
    else none
  | _ => none

/-- The cells of what is appended or copied. -/
def firstA (h : List Blk) (size n : Nat) : Value → Option (List Value)
  | .slice (some a) _ _ => rd h a (n * size)
  | .slice none _ _ => if n = 0 then some [] else none
  | .string s => some ((s.extract 0 n).data.toList.map fun b => .int .u8 b.toNat)
  | _ => none

def lenA : Value → Option Nat
  | .slice _ n _ => some n
  | .string s => some s.size
  | _ => none

def isInt (t : TypeId) : Bool := match P.underlying t with | some (.int _) => true | _ => false

def appendA (ro : Nat) (h : List Blk) (ats : Array TypeId) (args : Array Value) : Option (Value × List Blk) :=
  match (ats[0]? : Option TypeId), (ats[1]? : Option TypeId), (args[0]? : Option Value), (args[1]? : Option Value) with
  | some st, some xt, some (.slice base l c), some x =>
    match P.underlying st with
    | some (.slice elem) => do
      let info ← P.info? elem
      let z ← zeroT P elem
      let n ← lenA x
      if isInt P xt || z.length ≠ info.size || info.size = 0 || (P.underlying xt).isNone then none else
      let new ← firstA h info.size n x
      if n = 0 && !new.isEmpty then none else
      let size := info.size
      let need := l + n
      let fresh (old : List Value) (h' : List Blk) : Option (Value × List Blk) :=
        if (2 * need + 192) * (info.bytes + 1) ≤ 2 ^ 46 && (old ++ new).length == need * size && new.all cellOk then some (.slice (some ⟨h.length, 0, none⟩) need (unk + size), h' ++ [.cells (old ++ new) elem true]) else none
      match base with
      | none => if l = 0 && c = 0 then (if n = 0 then some (.slice none l c, h) else fresh [] h) else none
      | some a =>
        if n = 0 then (if c < unk && c < l then none else some (.slice base l c, h)) else
        if c < unk then
          if need ≤ c then do
            let h' ← wr ro h (a.add (l * size)) new
            some (.slice base need c, h')
          else if l ≤ c then do
            let old ← rd h a (l * size)
            fresh old h
          else none
        else if c ≠ unk + size then none else
          match h[a.block]? with
          | some (.cells cs e wd) =>
            if a.off + need * size ≤ cs.length then do
              let h' ← wr ro h (a.add (l * size)) new
              some (.slice base need c, h')
            else if a.off = 0 && a.spot.isNone && cs.length = l * size && e = elem && wd && ro ≤ a.block then
              fresh cs (h.set a.block .dead)
            else none
          | _ => none
    | _ => none
  | _, _, _, _ => none

def copyA (ro : Nat) (h : List Blk) (ats : Array TypeId) (args : Array Value) : Option (Value × List Blk) :=
  match (ats[0]? : Option TypeId), (args[0]? : Option Value), (args[1]? : Option Value) with
  | some st, some (.slice base dl _), some x =>
    match P.underlying st with
    | some (.slice elem) => do
      let size ← sizeT P elem
      let sl ← lenA x
      let n := Nat.min sl dl
      let new ← firstA h size n x
      match base with
      | none => some (goInt n, h)
      | some a => do
        let h' ← wr ro h a new
        some (goInt n, h')
    | _ => none
  | _, _, _ => none

def lenOfA (h : List Blk) (t : TypeId) (x : Value) : Option Value :=
  match P.underlying t, x with
  | some .string, .string s => some (goInt s.size)
  | some (.array n _), _ => some (goInt n)
  | some (.slice _), .slice _ n _ => some (goInt n)
  | some (.map _ _), .map none => some (goInt 0)
  | some (.map _ _), .map (some r) =>
    match h[r]? with
    | some (.obj (.map es _)) => some (goInt es.size)
    | _ => none
  | some (.pointer arr), .pointer _ =>
    match P.underlying arr with
    | some (.array n _) => some (goInt n)
    | _ => none
  | _, _ => none

def capOfA (t : TypeId) (x : Value) : Option Value :=
  match P.underlying t, x with
  | some (.array n _), _ => some (goInt n)
  | some (.slice _), .slice none _ n => some (goInt n)
  | some (.slice _), .slice (some _) _ n => if n < unk then some (goInt n) else none
  | _, _ => none

/-- Which entry of a map has a key. -/
def askA (kt : TypeId) (k : Value) : List MapEntry → Nat → Option (Option (Nat × Value))
  | [], _ => some none
  | e :: es, i => do
    if ← pureRun P (Op.equal kt k e.key) then some (some (i, e.val)) else askA kt k es (i + 1)

def findA (kt : TypeId) (k : Value) (es : List MapEntry) : Option (Option (Nat × Value)) := do
  let kind ← P.underlying kt
  match Instr.findNow kind k es 0 with
  | some r => some r
  | none => askA P kt k es 0

def keyOk (empty : Bool) (kt : TypeId) (k : Value) : Bool := isFlat k && (pureRun P (Instr.checkKey empty 10000 kt k)).isSome

def zeroV (t : TypeId) : Option Value := do
  let v ← (P.info? t).bind (·.zero)
  if isFlat v then some v else none

def lookE (kt et : TypeId) (k : Value) (ok : Bool) (es : Array MapEntry) : Option Value :=
  if keyOk P es.isEmpty kt k then
    match findA P kt k es.toList with
    | some (some (_, v)) => some (if ok then .tuple #[v, .bool true] else v)
    | some none => match zeroV P et with
      | some z => some (if ok then .tuple #[z, .bool false] else z)
      | none => none
    | none => none
  else none

def lookupA (h : List Blk) (t : TypeId) (x k : Value) (ok : Bool) : Option Value :=
  match P.underlying t, x with
  | some (.map kt et), .map none => lookE P kt et k ok #[]
  | some (.map kt et), .map (some r) =>
    match h[r]? with
    | some (.obj (.map es _)) => lookE P kt et k ok es
    | _ => none
  | _, _ => none

def mapUpdateA (ro : Nat) (h : List Blk) (t : TypeId) (m k v : Value) : Option (List Blk) :=
  match P.underlying t, m with
  | some (.map kt _), .map (some r) =>
    match h[r]? with
    | some (.obj (.map es clock)) =>
      if keyOk P false kt k && ro ≤ r then
        match findA P kt k es.toList with
        | some (some (i, _)) =>
          if Instr.sameBits 10000 (((es[i]?).map (·.key)).getD k) k then
            some (h.set r (.obj (.map (es.modify i fun e => { e with key := k, val := v }) clock)))
          else none
        | some none => some (h.set r (.obj (.map (es.push { key := k, val := v, born := clock }) (clock + 1))))
        | none => none
      else none
    | _ => none
  | _, _ => none

def rangeA (h : List Blk) (t : TypeId) (x : Value) : Option (Value × List Blk) :=
  match P.underlying t, x with
  | some .string, .string s => some (.pointer (some ⟨h.length, 0, none⟩), h ++ [.obj (.stringIter s 0)])
  | some (.map _ _), .map none => some (.pointer (some ⟨h.length, 0, none⟩), h ++ [.obj (.mapIter none 0 #[] 0)])
  | some (.map _ _), .map (some m) =>
    match h[m]? with
    | some (.obj (.map _ clock)) => some (.pointer (some ⟨h.length, 0, none⟩), h ++ [.obj (.mapIter (some m) clock #[] clock)])
    | _ => none
  | _, _ => none

/-- The entries that an iteration may tell next. -/
def candA (es : Array MapEntry) (since : Nat) (seen : Array Nat) : Array (Option MapEntry) :=
  let left := es.filter fun e => !seen.contains e.born
  let old := left.filter (·.born < since)
  let new := left.filter (·.born ≥ since)
  (if old.isEmpty then #[none] else #[]) ++ (old ++ new).map some

def nextA (ro : Nat) (h : List Blk) (it : Value) (isString : Bool) : Option (Value × List Blk) :=
  match it with
  | .pointer (some ⟨r, 0, _⟩) =>
    if r < ro then none else
    match h[r]?, isString with
    | some (.obj (.stringIter s pos)), true =>
      if pos < s.size then
        let (c, width) := Utf8.decode s pos
        some (.tuple #[.bool true, goInt pos, .int .i32 c], h.set r (.obj (.stringIter s (pos + width))))
      else some (.tuple #[.bool false], h)
    | some (.obj (.mapIter none _ _ _)), false => some (.tuple #[.bool false], h)
    | some (.obj (.mapIter (some m) since seen last)), false =>
      match h[m]? with
      | some (.obj (.map es clock)) =>
        if !seen.isEmpty && !es.isEmpty && es.all (·.born ≥ last) then none else
        let cs := candA es since seen
        if cs.size ≠ 1 then none else
        match cs[0]? with
        | some (some e) => some (.tuple #[.bool true, e.key, e.val], h.set r (.obj (.mapIter (some m) since (seen.push e.born) clock)))
        | some none => some (.tuple #[.bool false], h)
        | none => none
      | _ => none
    | _, _ => none
  | _ => none

/-- The entry at which an iteration stands. -/
def entryA (h : List Blk) (it : Value) : Option Value :=
  match it with
  | .pointer (some ⟨r, 0, _⟩) =>
    match h[r]? with
    | some (.obj (.mapIter (some m) _ seen stepped)) =>
      match seen.back?, h[m]? with
      | some stamp, some (.obj (.map es clock)) =>
        if clock != stepped then none else
        match es.find? (·.born == stamp) with
        | some e => some (.tuple #[e.key, e.val])
        | none => none
      | _, _ => none
    | _ => none
  | _ => none

/-- Is it nil (of what has an address in it)? -/
def nilEq : Value → Value → Option Bool
  | .pointer none, .pointer (some _) => some false
  | .pointer (some _), .pointer none => some false
  | .slice none _ _, .slice (some _) _ _ => some false
  | .slice (some _) _ _, .slice none _ _ => some false
  | .map none, .map (some _) => some false
  | .map (some _), .map none => some false
  | .nilFunc, .func .. => some false
  | .func .., .nilFunc => some false
  | .nilIface, .iface .. => some false
  | .iface .., .nilIface => some false
  | _, _ => none

/-- The type whose values are compared so. -/
def nilType (t : TypeId) : Value → Bool
  | .pointer _ => match P.underlying t with | some (.pointer _) => true | _ => false
  | .slice .. => match P.underlying t with | some (.slice _) => true | _ => false
  | .map _ => match P.underlying t with | some (.map ..) => true | _ => false
  | .func .. => match P.underlying t with | some (.func ..) => true | _ => false
  | .nilFunc => match P.underlying t with | some (.func ..) => true | _ => false
  | .iface .. => match P.underlying t with | some (.interface _) => true | _ => false
  | .nilIface => match P.underlying t with | some (.interface _) => true | _ => false
  | _ => false

def binA (op : BinOp) (t : TypeId) (x y : Value) : Option Value :=
  if nilType P t x then
    match op with
    | .eql => (nilEq x y).map .bool
    | .neq => (nilEq x y).map fun b => .bool (!b)
    | _ => none
  else none

def partA (t : TypeId) (cs : Array Value) (off : Nat) : Option Value := do
  if ← isAggT P t then
    let n ← sizeT P t
    some (.agg (cs.extract off (off + n)))
  else cs[off]?

def fieldOfA (t : TypeId) (x : Value) (f : Nat) : Option Value :=
  match P.underlying t, x with
  | some (.struct fields), .agg cs => do
    let fd ← fields[f]?
    partA P fd.type cs fd.offset
  | _, _ => none

def assertA (x : Value) (asserted : TypeId) (ok : Bool) : Option Value :=
  match P.underlying asserted, x with
  | some (.interface _), _ => none
  | some _, .iface t v =>
    if t = asserted then some (if ok then .tuple #[v, .bool true] else v)
    else if ok then do
      let z ← zeroV P asserted
      some (.tuple #[z, .bool false])
    else none
  | _, _ => none

/-- A string out of bytes, and bytes out of a string. -/
def bytesOf : List Value → Option (List UInt8)
  | [] => some []
  | .int .u8 n :: r => do
    let l ← bytesOf r
    some (UInt8.ofNat n.toNat :: l)
  | _ => none

def convertA (h : List Blk) (src dst : TypeId) (x : Value) : Option (Value × List Blk) :=
  match P.underlying src, P.underlying dst, x with
  | some .string, some (.slice e), .string s =>
    match P.underlying e with
    | some (.int .u8) => if s.size < 2 ^ 40 then some (.slice (some ⟨h.length, 0, none⟩) s.size (unk + 1), h ++ [.cells (s.data.toList.map fun b => .int .u8 b.toNat) e true]) else none
    | _ => none
  | some (.slice e), some .string, .slice (some a) len _ =>
    match P.underlying e with
    | some (.int .u8) => do
      let c ← rd h a len
      let l ← bytesOf c
      some (.string ⟨l.toArray⟩, h)
    | _ => none
  | _, _, _ => none

/-- The function and the receiver of a method of a dynamic type. -/
def methodA (t : TypeId) (v : Value) (name : String) : Option (FuncId × Value) := do
  let info ← P.info? t
  let m ← info.methods.find? (·.name == name)
  if !m.path.isEmpty then none else
  let (f, ptr) ← m.func
  match P.underlying t, ptr with
  | some (.pointer _), true => some (f, v)
  | some (.pointer _), false => none
  | some _, false => some (f, v)
  | _, _ => none

/-- What a call comes to: a function and its arguments. -/
def calleeA (fn : Fn) (captured : List Value) (args : List Value) : Option (FuncId × List Value) :=
  match fn with
  | .func f => some (f, args ++ captured)
  | .method name =>
    match args with
    | .iface t v :: r => do
      let (f, x) ← methodA P t v name
      some (f, x :: r)
    | _ => none
  | .via t path f ptr =>
    match args with
    | x :: r =>
      if !path.isEmpty then none else
      match P.underlying t, ptr with
      | some (.pointer _), true => some (f, x :: r)
      | some (.pointer _), false => none
      | some _, false => some (f, x :: r)
      | _, _ => none
    | [] => none
  | _ => none

/-- What an operation comes to. -/
inductive Res where
  | value (v : Value)
  | skip
  | enter (f : FuncId) (args : List Value)

/-- A call entered, or answered at once by a function without a Go body. -/
def enterA (X : Ctx) (h : List Blk) : Option (FuncId × List Value) → Option (Res × List Blk)
  | none => none
  | some (f, args) =>
    match X.E f with
    | some e => match e args with
      | some v => some (.value v, h)
      | none => none
    | none => match X.F f with
      | some fn => if fn.body.isSome then some (.enter f args, h) else none
      | none => none

def flatOp (ρ : Operand → Value) (o : Oper) : Option Res :=
  if o.op.operands.toList.all fun x => isFlat (ρ x) then
    match pureRun P (execOp ρ o) with
    | some (.value v) => if isFlat v then some (.value v) else none
    | some .skip => some .skip
    | _ => none
  else none

def quietV (v : Option Value) (h : List Blk) : Option (Res × List Blk) := v.map fun v => (.value v, h)
def newV (v : Option (Value × List Blk)) : Option (Res × List Blk) := v.map fun (v, h) => (.value v, h)
def newU (v : Option (List Blk)) : Option (Res × List Blk) := v.map fun h => (.skip, h)

def opA (X : Ctx) (ρ : Operand → Value) (o : Oper) (h : List Blk) : Option (Res × List Blk) :=
  match o.op with
  | .move x => some (.value (ρ x), h)
  | .assign x => some (.value (ρ x), h)
  | .pick c a b => match ρ c with
    | .bool t => some (.value (if t then ρ a else ρ b), h)
    | _ => none
  | .alloc t => do
    let z ← zeroT X.P t
    some (.value (.pointer (some ⟨h.length, 0, none⟩)), h ++ [.cells z t false])
  | .box t x => some (.value (.pointer (some ⟨h.length, 0, none⟩)), h ++ [.cells (ρ x).cells.toList t false])
  | .load t x => quietV (loadA X.P h t (ρ x)) h
  | .store t a x => newU (storeA X.P X.ro h t (ρ a) (ρ x))
  | .fieldAddr s x f => quietV (fieldA X.P s (ρ x) f) h
  | .indexAddr t x i => quietV (indexA X.P t (ρ x) (ρ i)) h
  | .makeSlice t l c => newV (makeSliceA X.P h t (ρ l) (ρ c))
  | .buildSlice t n ps => newV (buildSliceA X.P h t n (ps.toList.map fun p => (p.1, ρ p.2)))
  | .makeMap _ none => some (.value (.map (some h.length)), h ++ [.obj (.map #[] 0)])
  | .makeMap t (some n) => match X.P.underlying t, ρ n with
    | some (.map ..), .int .. => some (.value (.map (some h.length)), h ++ [.obj (.map #[] 0)])
    | _, _ => none
  | .lookup t x k ok => quietV (lookupA X.P h t (ρ x) (ρ k) ok) h
  | .mapUpdate t m k x => newU (mapUpdateA X.P X.ro h t (ρ m) (ρ k) (ρ x))
  | .insert t m k x => newU (mapUpdateA X.P X.ro h t (ρ m) (ρ k) (ρ x))
  | .range t x => newV (rangeA X.P h t (ρ x))
  | .next x s => newV (nextA X.ro h (ρ x) s)
  | .entry x => quietV (entryA h (ρ x)) h
  | .makeFunc fn first captured => if fnOk fn then some (.value (.func fn (first.map ρ) (captured.map ρ)), h) else none
  | .makeInterface t x => match X.P.underlying t with
    | some (.interface _) => none
    | some _ => some (.value (.iface t (ρ x)), h)
    | none => none
  | .extract x i => match ρ x with
    | .tuple vs => quietV vs[i]? h
    | _ => none
  | .nilCheck x => match ρ x with
    | .pointer (some a) => some (.value (.pointer (some a)), h)
    | .iface t v => some (.value (.iface t v), h)
    | .func (.func f) fs cs => some (.value (.func (.func f) fs cs), h)
    | .func (.via t p f b) fs cs => some (.value (.func (.via t p f b) fs cs), h)
    | _ => none
  | .call { callee := .builtin .append, args, argTypes } => newV (appendA X.P X.ro h argTypes (args.map ρ))
  | .call { callee := .builtin .copy, args, argTypes } => newV (copyA X.P X.ro h argTypes (args.map ρ))
  | .call { callee := .builtin .len, args, argTypes } => match argTypes[0]?, (args.map ρ)[0]? with
    | some t, some x => quietV (lenOfA X.P h t x) h
    | _, _ => none
  | .call { callee := .builtin .cap, args, argTypes } => match argTypes[0]?, (args.map ρ)[0]? with
    | some t, some x => quietV (capOfA X.P t x) h
    | _, _ => none
  | .call { callee := .builtin _, .. } => (flatOp X.P ρ o).map (·, h)
  | .call { callee := .value f, args, .. } => match ρ f with
    | .func fn first captured => enterA X h (calleeA X.P fn captured.toList (first.toList ++ args.toList.map ρ))
    | _ => none
  | .call { callee := .invoke r name, args, .. } => enterA X h (calleeA X.P (.method name) [] (ρ r :: args.toList.map ρ))
  | .field t x f => match flatOp X.P ρ o with
    | some r => some (r, h)
    | none => quietV (fieldOfA X.P t (ρ x) f) h
  | .build t ps => quietV (buildA X.P t (ps.toList.map fun p => (p.1, ρ p.2))) h
  | .slice t x lo hi mx => match flatOp X.P ρ o with
    | some r => some (r, h)
    | none => quietV (sliceA X.P t (ρ x) (lo.map ρ) (hi.map ρ) (mx.map ρ)) h
  | .binOp op t x y _ => match flatOp X.P ρ o with
    | some r => some (r, h)
    | none => quietV (binA X.P op t (ρ x) (ρ y)) h
  | .convert s d x => match flatOp X.P ρ o with
    | some r => some (r, h)
    | none => newV (convertA X.P h s d (ρ x))
  | .typeAssert x _ t ok => match flatOp X.P ρ o with
    | some r => some (r, h)
    | none => quietV (assertA X.P (ρ x) t ok) h
  | .unOp .. => (flatOp X.P ρ o).map (·, h)
  | .index .. => (flatOp X.P ρ o).map (·, h)
  | _ => none

end

/-! ### Code -/

def add64 : List Value → Option Value
  | [.int .u64 x, .int .u64 y, .int .u64 c] =>
    if 0 ≤ x ∧ 0 ≤ y ∧ 0 ≤ c ∧ c ≤ 1 then some (.tuple #[.int .u64 ((x + y + c) % 18446744073709551616), .int .u64 ((x + y + c) / 18446744073709551616)]) else none
  | _ => none

def evalA (tmps : Array Value) : Operand → Value
  | .tmp t => tmps.getD t undef
  | .const v => v
  | .global g => .pointer (some ⟨g, 0, none⟩)
  | .func f => .func (.func f) #[] #[]

/-- Operands that can be told. -/
def okX (globs : Nat) : Operand → Bool
  | .const v => isFlat v
  | .global g => g < globs
  | _ => true

def putA (tmps : Array Value) (dst : Option Tmp) (v : Value) : Array Value :=
  match dst with
  | some d => tmps.setIfInBounds d v
  | none => tmps

abbrev CallF := FuncId → List Value → List Blk → Option (Value × List Blk)

/-- One operation, with the call that it may make. -/
def oneA (X : Ctx) (call : CallF) (o : Oper) (tmps : Array Value) (h : List Blk) : Option (Value × List Blk) :=
  if o.op.operands.toList.all (okX X.globs) then
    match opA X (evalA tmps) o h with
    | some (.value v, h') => some (v, h')
    | some (.skip, h') => some (undef, h')
    | some (.enter f args, h') => call f args h'
    | none => none
  else none

def opsA (X : Ctx) (call : CallF) (all : Array Oper) : List Oper → Array Value → List Blk → Option (Array Value × List Blk)
  | [], tmps, h => some (tmps, h)
  | o :: rest, tmps, h =>
    if Region.wanted o (yielded all tmps) then
      match oneA X call o tmps h with
      | some (v, h') => opsA X call all rest (putA tmps o.dst v) h'
      | none => none
    else opsA X call all rest (putA tmps o.dst undef) h

/-- Operations that make memory, write or call. -/
def noisy : Op → Bool
  | .move _ | .assign _ | .pick .. | .load .. | .entry _ | .fieldAddr .. | .indexAddr .. | .lookup .. | .makeFunc .. | .makeInterface .. | .extract .. | .nilCheck _
  | .field .. | .build .. | .slice .. | .binOp .. | .typeAssert .. | .unOp .. | .index .. => false
  | .call { callee := .builtin .len, .. } | .call { callee := .builtin .cap, .. } | .call { callee := .builtin .max, .. } | .call { callee := .builtin .min, .. } => false
  | _ => true

/-- Of each operation the operations that come ahead of it, as bits. -/
def masks (ops : List Oper) : List Nat :=
  ops.foldl (fun acc o => acc ++ [o.after.toList.foldl (fun s e => if Region.binds .any e then s ||| 2 ^ e.on ||| acc.getD e.on 0 else s) 0]) []

/-- A new variable: in a region that draws its order it may come up anywhere. -/
def allocT : Op → Option TypeId
  | .alloc t => some t
  | _ => none

def loud (o : Op) : Bool := noisy o && (allocT o).isNone

/-- Are all operations that make a noise in one order? -/
def chain (ms : List Nat) : List Nat → Bool
  | [] => true
  | i :: r => r.all (fun j => (ms.getD j 0).testBit i) && chain ms r

/-- Are the slots in order: each is written once, and what is read is written ahead of it or behind it for certain? -/
def slots (ops : List Oper) (ms : List Nat) : Bool :=
  let n := ops.length
  (List.range n).all fun i => (List.range n).all fun j =>
    let x := ops.getD i default
    let y := ops.getD j default
    i == j || match x.dst with
      | none => true
      | some d => y.dst != some d && (!(y.looksAt ops.toArray).contains d || (ms.getD j 0).testBit i || (ms.getD i 0).testBit j)

/-- Are two values the same? (Of a few kinds; else: no.) -/
def eqV : Nat → Value → Value → Bool
  | _, .bool a, .bool b => a == b
  | _, .int j a, .int k b => j == k && a == b
  | _, .string a, .string b => a.data == b.data
  | _, .nilFunc, .nilFunc => true
  | _, .nilIface, .nilIface => true
  | _, .pointer a, .pointer b => a == b
  | _, .slice a l c, .slice b m d => a == b && l == m && c == d
  | _, .map a, .map b => a == b
  | n + 1, .iface t v, .iface u w => t == u && eqV n v w
  | n + 1, .agg a, .agg b => a.size == b.size && (a.toList.zip b.toList).all fun x => eqV n x.1 x.2
  | n + 1, .tuple a, .tuple b => a.size == b.size && (a.toList.zip b.toList).all fun x => eqV n x.1 x.2
  | n + 1, .func f a c, .func g b d => decide (f = g) && a.size == b.size && (a.toList.zip b.toList).all (fun x => eqV n x.1 x.2) && c.size == d.size && (c.toList.zip d.toList).all fun x => eqV n x.1 x.2
  | _, _, _ => false

/-- What an operation met in the order of the text, and what it came to. -/
structure Ent where
  o : Oper
  wanted : Bool
  id : Nat
  tmps : Array Value
  v : Value
  h' : List Blk

/-- An operation of a region that draws its order: a new variable has been laid ahead of it, at block id. -/
def stepD (X : Ctx) (call : CallF) (id : Nat) (o : Oper) (tmps : Array Value) (h : List Blk) : Option (Value × List Blk) :=
  match allocT o.op with
  | some _ => some (.pointer (some ⟨id, 0, none⟩), h)
  | none => oneA X call o tmps h

def bump (o : Oper) (id : Nat) : Nat := if (allocT o.op).isSome then id + 1 else id

/-- The run in the order of the text. -/
def traceA (X : Ctx) (call : CallF) (all : Array Oper) : List Oper → Nat → Array Value → List Blk → Option (List Ent × Array Value × List Blk)
  | [], _, tmps, h => some ([], tmps, h)
  | o :: rest, id, tmps, h =>
    if Region.wanted o (yielded all tmps) then
      match stepD X call id o tmps h with
      | some (v, h') => match traceA X call all rest (bump o id) (putA tmps o.dst v) h' with
        | some (es, t, hl) => some (⟨o, true, id, tmps, v, h'⟩ :: es, t, hl)
        | none => none
      | none => none
    else match traceA X call all rest (bump o id) (putA tmps o.dst undef) h with
      | some (es, t, hl) => some (⟨o, false, id, tmps, undef, h⟩ :: es, t, hl)
      | none => none

/-- The loud ones among operations, by their places. -/
def louds (ops : List Oper) : List Nat := (List.range ops.length).filter fun i => loud (ops.getD i default).op

/-- The new variables among operations, as blocks. -/
def fresh (P : Program) : List Oper → Option (List Blk)
  | [] => some []
  | o :: r => match allocT o.op with
    | some t => match zeroT P t, fresh P r with
      | some z, some l => some (.cells z t false :: l)
      | _, _ => none
    | none => fresh P r

/-- May operation i come up where just the first p of the loud ones ns are done? -/
def compat (ms : List Nat) (i : Nat) (ns : List Nat) (p : Nat) : Bool :=
  (ns.take p).all (fun j => !(ms.getD j 0).testBit i) && (ns.drop p).all (fun j => !(ms.getD i 0).testBit j)

/-- Is a block still as it was laid? -/
def still (P : Program) (t : TypeId) : Option Blk → Bool
  | some (.cells c e wd) => match zeroT P t with
    | some z => c.length == z.length && (c.zip z).all (fun x => eqV 8 x.1 x.2) && e == t && !wd
    | none => false
  | _ => false

/-- Does an operation that is not loud tell the same wherever it may come up? -/
def steady (X : Ctx) (call : CallF) (ms ns : List Nat) (H : List (List Blk)) (i : Nat) (e : Ent) : Bool :=
  loud e.o.op || !e.wanted || (List.range (ns.length + 1)).all fun p =>
    !compat ms i ns p || match H[p]? with
      | some hp => match allocT e.o.op with
        | some t => still X.P t hp[e.id]?
        | none => match oneA X call e.o e.tmps hp with
          | some (v, _) => eqV 8 v e.v
          | none => false
      | none => false

/-- Edges lead back. -/
def dag (ops : List Oper) : Bool :=
  ops.zipIdx.all fun (o, i) => o.after.toList.all fun e => !Region.binds .any e || e.on < i

def drawA (X : Ctx) (call : CallF) (ops : Array Oper) (tmps : Array Value) (h : List Blk) : Option (Array Value × List Blk) :=
  let l := ops.toList
  let ms := masks l
  let ns := louds l
  if dag l && slots l ms && chain ms ns then
    match fresh X.P l with
    | some bs =>
      match traceA X call ops l h.length tmps (h ++ bs) with
      | some (es, t, hl) =>
        let H := (h ++ bs) :: ns.map fun i => ((es[i]?).map (·.h')).getD []
        if (es.zipIdx.all fun (e, i) => steady X call ms ns H i e) && es.all (fun e => e.wanted || (allocT e.o.op).isNone) then some (t, hl) else none
      | none => none
    | none => none
  else none

inductive Out where
  | normal
  | exit (id : Nat)
  | ret
  deriving DecidableEq

def codeA (X : Ctx) (call : CallF) : Nat → Code → Array Value → List Blk → Option (Out × Array Value × List Blk)
  | 0, _, _, _ => none
  | n + 1, c, tmps, h =>
    match c with
    | .skip => some (.normal, tmps, h)
    | .region _ ops draw => match (if draw then drawA X call ops tmps h else opsA X call ops ops.toList tmps h) with
      | some (t, h') => some (.normal, t, h')
      | none => none
    | .seq a b => match codeA X call n a tmps h with
      | some (.normal, t, h') => codeA X call n b t h'
      | r => r
    | .cond c a b => if okX X.globs c then match evalA tmps c with
        | .bool t => codeA X call n (if t then a else b) tmps h
        | _ => none
      else none
    | .block id b => match codeA X call n b tmps h with
      | some (.exit id', t, h') => if id' = id then some (.normal, t, h') else some (.exit id', t, h')
      | r => r
    | .loop b => match codeA X call n b tmps h with
      | some (.normal, t, h') => codeA X call n (.loop b) t h'
      | r => r
    | .exit id => some (.exit id, tmps, h)
    | .ret => some (.ret, tmps, h)
    | _ => none

def resA (P : Program) (tmps : Array Value) (h : List Blk) : ResultVar → Option Value
  | .tmp t => some (tmps.getD t undef)
  | .cell a t => loadA P h t (tmps.getD a undef)

def resultsA (P : Program) (fn : Func) (tmps : Array Value) (h : List Blk) : Option Value :=
  match fn.results.toList.mapM (resA P tmps h) with
  | some [v] => some v
  | some vs => some (.tuple vs.toArray)
  | none => none

/-- A call, by so many levels of calls, each with so many steps. -/
def callA (X : Ctx) (fuel : Nat) : Nat → CallF
  | 0, _, _, _ => none
  | n + 1, f, args, h =>
    match X.K f with
    | some k => k args h
    | none =>
      match X.F f with
      | some fn =>
        match fn.body with
        | some c =>
          match codeA X (callA X fuel n) fuel c (args.toArray ++ Array.replicate (fn.ntmps - args.length) undef) h with
          | some (.normal, t, h') => (resultsA X.P fn t h').map (·, h')
          | some (.ret, t, h') => (resultsA X.P fn t h').map (·, h')
          | _ => none
        | none => none
      | none => none

end Sx
end Go.Proofs.YtmfejegpnfbajaaGreatDoor
