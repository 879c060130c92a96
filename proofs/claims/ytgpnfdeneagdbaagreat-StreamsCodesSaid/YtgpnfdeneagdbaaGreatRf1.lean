/- A machine that runs closed calls within the kernel: it knows memory by blocks of its own numbering, and goes through regions that draw their order in one order that stands for all. The soundness stands in the parts behind. -/
import GoSem.Step
import Derived.Control
import Derived.KernelRfl
namespace Go.Proofs.YtgpnfdeneagdbaaGreat.Rf
open Go
set_option linter.unusedVariables false

inductive Tr (α : Type) : Type
  | nil : Tr α
  | node (l : Tr α) (v : Option α) (r : Tr α) : Tr α

/-- what stands at n -/
def Tr.get {α : Type} : Tr α → Nat → Option α
  | .nil, _ => none
  | .node l v r, n => bif n.beq 0 then v else bif (n % 2).beq 1 then l.get (n / 2) else r.get (n / 2 - 1)

/-- x laid at n; handed on when it is done -/
def Tr.putK {α : Type} : Nat → Tr α → Nat → α → (Tr α → Bool) → Bool
  | 0, _, _, _, _ => false
  | f + 1, .nil, n, x, K => bif n.beq 0 then K (.node .nil (some x) .nil) else bif (n % 2).beq 1 then Tr.putK f .nil (n / 2) x fun t => K (.node t none .nil) else Tr.putK f .nil (n / 2 - 1) x fun t => K (.node .nil none t)
  | f + 1, .node l v r, n, x, K => bif n.beq 0 then K (.node l (some x) r) else bif (n % 2).beq 1 then Tr.putK f l (n / 2) x fun t => K (.node t v r) else Tr.putK f r (n / 2 - 1) x fun t => K (.node l v t)

def deep : Nat := 24

/-- What is known of a block's row: how many cells an element has, the element's type, whether the machine knows the whole row. -/
abbrev Row := Nat × TypeId × Bool
inductive Blk
  | cells (c : List Value) (g : Option Row)
  | map (es : List MapEntry) (clock : Nat)
  | dead
  | ro (c : List Value)

structure St where
  tm : Tr Value
  hp : Tr Blk
  n : Nat

/-- without an address -/
def flat : Value → Bool
  | .bool _ | .int .. | .string _ | .pointer none | .slice none _ _ | .map none | .nilFunc | .nilIface => true
  | _ => false
def plain2 : Value → Bool
  | .iface _ v => flat v
  | .agg ⟨cs⟩ => cs.all flat
  | .func _ ⟨[]⟩ ⟨[]⟩ => true
  | v => flat v
def plain : Value → Bool
  | .tuple ⟨vs⟩ => vs.all plain2
  | v => plain2 v

/-- a run that looks at nothing -/
def pureRun {α : Type} (P : Program) : Sem α → Option α
  | .pure a => some a
  | .program k => pureRun P (k P)
  | .mark _ k => pureRun P k
  | _ => none

def pureV (P : Program) (s : Sem Value) : Option Value := match pureRun P s with
  | some v => bif plain v then some v else none
  | none => none

def ev (tm : Tr Value) : Operand → Option Value
  | .tmp t => match tm.get t with | some v => some v | none => some (.tuple #[])
  | .const v => bif plain v then some v else none
  | .func f => some (.func (.func f) #[] #[])
  | .global g => some (.pointer (some ⟨g, 0, some 2⟩))

def evs (tm : Tr Value) : List Operand → Option (List Value)
  | [] => some []
  | x :: xs => match ev tm x with
    | none => none
    | some v => match evs tm xs with
      | none => none
      | some vs => some (v :: vs)

def info (P : Program) (t : TypeId) : Option TypeInfo := P.info? t

/-- how many cells an element has, if there are any -/
def esz (P : Program) (t : TypeId) : Option Nat := bif (P.cellsOf t).beq 0 then none else some (P.cellsOf t)

def isAggB (P : Program) (t : TypeId) : Option Bool := match P.underlying t with
  | some (.struct _) | some (.array _ _) => some true
  | some _ => some false
  | none => none

/-- (these go by what they have gathered so far: a long row is no deep recursion) -/
def revOnto : List Value → List Value → List Value
  | [], b => b
  | x :: a, b => revOnto a (x :: b)
def takeAcc : Nat → List Value → List Value → Option (List Value)
  | 0, _, acc => some (revOnto acc [])
  | _ + 1, [], _ => none
  | n + 1, v :: vs, acc => takeAcc n vs (v :: acc)
def takeN (n : Nat) (l : List Value) : Option (List Value) := takeAcc n l []

def cellsAt (hp : Tr Blk) (a : Addr) (n : Nat) : Option (List Value) := match hp.get a.block with
  | some (.cells c _) => takeN n (c.drop a.off)
  | _ => none

/-- cells of a package variable that is only read: its pointers bear the variable's own number -/
def roAt (hp : Tr Blk) (g o n : Nat) : Option (List Value) := match hp.get (g + 1) with
  | some (.ro c) => takeN n (c.drop o)
  | _ => none

def loadA (P : Program) (hp : Tr Blk) (t : TypeId) (x : Value) : Option Value := match x with
  | .pointer (some ⟨g, o, some 2⟩) => match isAggB P t with
    | some true => match roAt hp g o (P.cellsOf t) with | some c => some (.agg ⟨c⟩) | none => none
    | some false => match roAt hp g o 1 with | some [v] => some v | _ => none
    | none => none
  | .pointer (some a) => match isAggB P t with
    | some true => match cellsAt hp a (P.cellsOf t) with | some c => some (.agg ⟨c⟩) | none => none
    | some false => match cellsAt hp a 1 with | some [v] => some v | _ => none
    | none => none
  | _ => none

def layOver : List Value → List Value → List Value → Option (List Value)
  | [], c, acc => some (revOnto acc c)
  | _ :: _, [], _ => none
  | v :: vs, _ :: c, acc => layOver vs c (v :: acc)
def setGo : Nat → List Value → List Value → List Value → Option (List Value)
  | 0, c, vs, acc => layOver vs c acc
  | _ + 1, [], _, _ => none
  | n + 1, x :: c, vs, acc => setGo n c vs (x :: acc)
def setAt (c : List Value) (o : Nat) (vs : List Value) : Option (List Value) := setGo o c vs []

def listOf : Value → List Value
  | .agg cs => cs.toList
  | v => [v]

/-- a part laid into cells -/
def lay (places : Nat → Option (Nat × Nat)) (c : List Value) : List (Nat × Value) → Option (List Value)
  | [] => some c
  | (i, v) :: rest => match places i with
    | none => none
    | some (off, size) => bif ((listOf v).length).beq size then match setAt c off (listOf v) with
        | some c => lay places c rest
        | none => none
      else none

def evParts (tm : Tr Value) : List (Nat × Operand) → Option (List (Nat × Value))
  | [] => some []
  | (i, x) :: xs => match ev tm x with
    | none => none
    | some v => match evParts tm xs with
      | none => none
      | some vs => some ((i, v) :: vs)

def rep : Nat → List Value → List Value
  | 0, _ => []
  | n + 1, z => z ++ rep n z

def zeroOf (P : Program) (t : TypeId) : Option (List Value) := match P.info? t with
  | some i => match i.zero with | some z => bif (listOf z).all flat && (listOf z).length.beq i.size then some (listOf z) else none | none => none
  | none => none

def natOf : Value → Option Nat
  | .int _ (.ofNat n) => some n
  | _ => none

def optNat (tm : Tr Value) : Option Operand → Nat → Option Nat
  | none, d => some d
  | some x, _ => match ev tm x with | some v => natOf v | none => none

/-- the bounds of a cut: low, high, max -/
def bounds (tm : Tr Value) (len cap : Nat) (lo hi mx : Option Operand) : Option (Nat × Nat × Nat) :=
  match optNat tm mx cap with
  | none => none
  | some m => match optNat tm hi len with
    | none => none
    | some h => match optNat tm lo 0 with
      | none => none
      | some l => bif l.ble h && h.ble m && m.ble cap then some (l, h, m) else none

@[reducible] def slack : Option Nat := some 0

/-- addresses: 'spot' tells whether a slice's capacity is only known from below (0), or nothing is known of where it is, and it is empty (1) -/
def cut (hp : Tr Blk) (a : Option Addr) (size l h m : Nat) (threed : Bool) : Option Value := match a with
  | none => some (.slice none (h - l) (m - l))
  | some ⟨b, o, none⟩ => some (.slice (some ⟨b, bif m.beq l then o else o + l * size, none⟩) (h - l) (m - l))
  | some ⟨b, o, some 0⟩ => bif threed then some (.slice (some ⟨b, bif m.beq l then o else o + l * size, none⟩) (h - l) (m - l))
    else bif m.beq l then some (.slice (some ⟨0, 0, some 1⟩) 0 0)
    else match hp.get b with
      | some (.cells _ (some (es, _, _))) => bif es.beq size then some (.slice (some ⟨b, o + l * size, some 0⟩) (h - l) (m - l)) else none
      | _ => none
  | some ⟨_, _, some _⟩ => bif h.beq 0 && m.beq 0 then some (.slice (some ⟨0, 0, some 1⟩) 0 0) else none

def sliceA (P : Program) (tm : Tr Value) (hp : Tr Blk) (t : TypeId) (x : Value) (lo hi mx : Option Operand) : Option Value :=
  match P.underlying t, x with
  | some (.array n e), .pointer (some ⟨b, o, none⟩) => match esz P e, bounds tm n n lo hi mx with
    | some z, some (l, h, m) => bif mx.isSome && !hi.isSome then none else cut hp (some ⟨b, o, none⟩) z l h m mx.isSome
    | _, _ => none
  | some (.slice e), .slice a len cap => match esz P e, bounds tm len cap lo hi mx with
    | some z, some (l, h, m) => bif mx.isSome && !hi.isSome then none else cut hp a z l h m mx.isSome
    | _, _ => none
  | some .string, .string s => match mx, bounds tm s.size s.size lo hi none with
    | none, some (l, h, _) => some (.string (s.extract l h))
    | _, _ => none
  | _, _ => none

def fieldAt (P : Program) (t : TypeId) (f : Nat) : Option (Nat × TypeId) := match P.underlying t with
  | some (.struct fs) => match fs[f]? with
    | some f => some (f.offset, f.type)
    | none => none
  | _ => none

def partA (P : Program) (t : TypeId) (c : List Value) (off : Nat) : Option Value := match isAggB P t with
  | some true => match takeN (P.cellsOf t) (c.drop off) with | some r => some (.agg ⟨r⟩) | none => none
  | some false => match c.drop off with | v :: _ => some v | [] => none
  | none => none

/-- == on what may have an address: against nil alone -/
def eqP (P : Program) : Option TypeDesc → Value → Value → Option Bool
  | some (.pointer t), .pointer (some ⟨b, o, none⟩), .pointer (some ⟨b', o', none⟩) => bif (P.cellsOf t).beq 0 then none else
      bif b.beq b' && o.beq o' then some true else none
  | _, _, _ => none
def eqA : Option TypeDesc → Value → Value → Option Bool
  | some (.pointer _), .pointer none, .pointer b => some b.isNone
  | some (.pointer _), .pointer b, .pointer none => some b.isNone
  | some (.slice _), .slice none _ _, .slice b _ _ => some b.isNone
  | some (.slice _), .slice b _ _, .slice none _ _ => some b.isNone
  | some (.map _ _), .map none, .map b => some b.isNone
  | some (.map _ _), .map b, .map none => some b.isNone
  | some (.func _ _ _), .nilFunc, .func _ _ _ => some false
  | some (.func _ _ _), .func _ _ _, .nilFunc => some false
  | some (.interface _), .nilIface, .iface _ _ => some false
  | some (.interface _), .iface _ _, .nilIface => some false
  | _, _, _ => none

def bytesOf : List Value → Option (List UInt8)
  | [] => some []
  | .int .u8 n :: vs => match bytesOf vs with | some l => some (UInt8.ofNat n.toNat :: l) | none => none
  | _ :: _ => none

def lenA : Option TypeDesc → Value → Option Value
  | some (.slice _), .slice _ n _ => some (goInt n)
  | some .string, .string s => some (goInt s.size)
  | some (.array n _), _ => some (goInt n)
  | _, _ => none
def capA : Option TypeDesc → Value → Option Value
  | some (.slice _), .slice none _ n => some (goInt n)
  | some (.slice _), .slice (some ⟨_, _, none⟩) _ n => some (goInt n)
  | _, _ => none

/-- readers: operations that leave memory alone -/
def evR (P : Program) (tm : Tr Value) (hp : Tr Blk) (o : Oper) : Option Value :=
  match o.op with
  | .move x | .assign x => ev tm x
  | .pick c a b => match ev tm c with
    | some (.bool true) => ev tm a
    | some (.bool false) => ev tm b
    | _ => none
  | .load t a => match ev tm a with | some x => loadA P hp t x | none => none
  | .nilCheck x => match ev tm x with
    | some (.pointer (some a)) => some (.pointer (some a))
    | some (.func (.func f) a b) => some (.func (.func f) a b)
    | _ => none
  | .fieldAddr s x f => match ev tm x, fieldAt P s f with
    | some (.pointer (some ⟨b, o, none⟩)), some (off, ft) => bif (P.cellsOf ft).beq 0 then none else some (.pointer (some ⟨b, o + off, none⟩))
    | some (.pointer (some ⟨b, o, some 2⟩)), some (off, ft) => bif (P.cellsOf ft).beq 0 then none else some (.pointer (some ⟨b, o + off, some 2⟩))
    | _, _ => none
  | .indexAddr t x i => match ev tm x, ev tm i, P.underlying t with
    | some (.pointer (some ⟨b, o, none⟩)), some (.int _ (.ofNat i)), some (.array n e) => match esz P e with
      | some z => bif i.blt n then some (.pointer (some ⟨b, o + i * z, none⟩)) else none
      | none => none
    | some (.pointer (some ⟨b, o, some 2⟩)), some (.int _ (.ofNat i)), some (.array n e) => match esz P e with
      | some z => bif i.blt n then some (.pointer (some ⟨b, o + i * z, some 2⟩)) else none
      | none => none
    | some (.slice (some ⟨b, o, _⟩) n _), some (.int _ (.ofNat i)), some (.slice e) => match esz P e with
      | some z => bif i.blt n then some (.pointer (some ⟨b, o + i * z, none⟩)) else none
      | none => none
    | _, _, _ => none
  | .field t x f => match ev tm x, fieldAt P t f with
    | some (.agg ⟨c⟩), some (off, ft) => partA P ft c off
    | _, _ => none
  | .index t x i => match ev tm x, ev tm i, P.underlying t with
    | some (.agg ⟨c⟩), some (.int _ (.ofNat i)), some (.array n e) => match esz P e with
      | some z => bif i.blt n then partA P e c (i * z) else none
      | none => none
    | some (.string s), some (.int _ (.ofNat i)), some .string => match s.data.toList.drop i with | b :: _ => some (.int .u8 b.toNat) | [] => none
    | _, _, _ => none
  | .build t parts => match evParts tm parts.toList, zeroOf P t, P.underlying t with
    | some ps, some z, some (.struct fs) => bif !(fs.toList.all fun f => (P.info? f.type).isSome) then none else match lay (fun i => match fs[i]? with | some f => some (f.offset, P.cellsOf f.type) | none => none) z ps with | some c => some (.agg ⟨c⟩) | none => none
    | some ps, some z, some (.array _ e) => match esz P e with
      | some k => match lay (fun i => some (i * k, k)) z ps with | some c => some (.agg ⟨c⟩) | none => none
      | none => none
    | _, _, _ => none
  | .extract t i => match ev tm t with
    | some (.tuple ⟨vs⟩) => match vs.drop i with | v :: _ => some v | [] => none
    | _ => none
  | .makeFunc fn f c => match evs tm f.toList, evs tm c.toList with
    | some f, some c => some (.func fn ⟨f⟩ ⟨c⟩)
    | _, _ => none
  | .slice t x lo hi mx => match ev tm x with | some x => sliceA P tm hp t x lo hi mx | none => none
  | .makeInterface t x => match ev tm x, P.underlying t with
    | some _, some (.interface _) => none
    | some v, some _ => some (.iface t v)
    | _, _ => none
  | .binOp op t x y _ => match ev tm x, ev tm y with
    | some a, some b => bif plain a && plain b then
        pureV P (do eqGuard op t x y a b; binOp op t a b)
      else match op, eqA (P.underlying t) a b with
        | .eql, some r => some (.bool r)
        | .neq, some r => some (.bool !r)
        | .neq, none => match eqP P (P.underlying t) a b with | some true => some (.bool false) | _ => none
        | _, _ => none
    | _, _ => none
  | .unOp op _ x => match ev tm x with | some a => bif plain a then pureV P (Op.unary op a) else none | none => none
  | .convert src dst x => match ev tm x, P.underlying src, P.underlying dst with
    | some (.slice none _ _), some (.slice e), some .string => match P.underlying e with | some (.int .u8) => some (.string .empty) | _ => none
    | some (.slice (some a) len _), some (.slice e), some .string => match P.underlying e, cellsAt hp a len with
      | some (.int .u8), some c => match bytesOf c with
        | some l => some (.string ⟨⟨l⟩⟩)
        | none => none
      | _, _ => none
    | some (.pointer (some ⟨b, o, none⟩)), some (.pointer t), some .unsafePointer => match hp.get b with
      | some (.cells c (some (_, _, true))) => bif o.blt c.length && (P.info? t).isSome && !((P.cellsOf t).beq 0) then some (.pointer (some ⟨b, o, none⟩)) else none
      | _ => none
    | some (.pointer (some ⟨b, o, none⟩)), some .unsafePointer, some (.pointer u) => match hp.get b with
      | some (.cells c (some (_, e, true))) => bif (P.info? u).isSome && liesAt P P.depth e (c.length / P.cellsOf e) o u 1 then some (.pointer (some ⟨b, o, none⟩)) else none
      | _ => none
    | some v, _, _ => bif plain v then pureV P (convert src dst v) else none
    | none, _, _ => none
  | .call { callee := .builtin b, args, argTypes } => match b, evs tm args.toList with
    | .len, some [x] => match argTypes[0]? with
      | some t => lenA (P.underlying t) x
      | none => none
    | .cap, some [x] => match argTypes[0]? with
      | some t => capA (P.underlying t) x
      | none => none
    | .unsafeSliceData, some [.slice none _ _] => some (.pointer none)
    | .unsafeSliceData, some [.slice (some ⟨b, o, s⟩) _ c] => bif c.beq 0 then none else some (.pointer (some ⟨b, o, none⟩))
    | .min, some xs => bif xs.all flat then pureV P (Builtin.min_ argTypes o.type ⟨xs⟩) else none
    | .max, some xs => bif xs.all flat then pureV P (Builtin.max_ argTypes o.type ⟨xs⟩) else none
    | _, _ => none
  | _ => none

/-- one cell's value -/
def one : Value → Bool
  | .agg _ | .tuple _ => false
  | _ => true

/-- makers: operations that lay a new block -/
def evN (P : Program) (tm : Tr Value) (o : Oper) : Option (Blk × (Nat → Value)) :=
  match o.op with
  | .alloc t => match zeroOf P t with | some z => some (.cells z (some (z.length, t, true)), fun b => .pointer (some ⟨b, 0, none⟩)) | none => none
  | .box t x => match ev tm x with | some v => bif (listOf v).all one then some (.cells (listOf v) none, fun b => .pointer (some ⟨b, 0, none⟩)) else none | none => none
  | .buildSlice t len parts => match evParts tm parts.toList, P.underlying t with
    | some ps, some (.slice e) => match zeroOf P e, esz P e with
      | some z, some k => match lay (fun i => some (i * k, k)) (rep len z) ps with
        | some c => bif c.all one && (len * k).ble 16777216 then some (.cells c none, fun b => .slice (some ⟨b, 0, none⟩) len len) else none
        | none => none
      | _, _ => none
    | _, _ => none
  | .makeSlice t l c => match ev tm l, ev tm c, P.underlying t with
    | some (.int _ (.ofNat l)), some (.int _ (.ofNat c)), some (.slice e) => match zeroOf P e, esz P e with
      | some z, some k => bif l.ble c && c.ble 1000000 && (P.bytesOf e * c).ble 140737488355328 then some (.cells (rep c z) none, fun b => .slice (some ⟨b, 0, none⟩) l c) else none
      | _, _ => none
    | _, _, _ => none
  | .makeMap _ none => some (.map [] 0, fun b => .map (some b))
  | .convert src dst x => match ev tm x, P.underlying src, P.underlying dst with
    | some (.string s), some .string, some (.slice e) => match P.underlying e, esz P e with
      | some (.int .u8), some k => bif k.beq 1 then some (.cells (s.data.toList.map fun b => .int .u8 b.toNat) (some (1, e, false)), fun b => .slice (some ⟨b, 0, slack⟩) s.size s.size) else none
      | _, _ => none
    | _, _, _ => none
  | _ => none

def storeA (P : Program) (hp : Tr Blk) (t : TypeId) (x v : Value) (K : Tr Blk → Bool) : Bool := match x, esz P t with
  | .pointer (some ⟨b, o, none⟩), some k => match hp.get b with
    | some (.cells c g) => bif ((listOf v).length).beq k && (listOf v).all one then match setAt c o (listOf v) with
        | some c => Tr.putK deep hp b (.cells c g) K
        | none => false
      else false
    | _ => false
  | _, _ => false

/-- what an append's second argument yields: how many elements, their cells -/
def elemsA (P : Program) (hp : Tr Blk) (size : Nat) (e tx : TypeId) (x : Value) : Option (Nat × List Value) := match P.underlying tx, x with
  | some (.slice _), .slice none l _ => bif l.beq 0 then some (0, []) else none
  | some (.slice _), .slice (some a) n _ => bif n.beq 0 then some (0, []) else match cellsAt hp a (n * size) with | some c => some (n, c) | none => none
  | some .string, .string s => bif size.beq 1 then some (s.size, s.data.toList.map fun b => .int .u8 b.toNat) else none
  | some (.int _), .int _ (.ofNat m) => match zeroOf P e with | some z => bif m.ble 100000 then some (m, rep m z) else none | none => none
  | _, _ => none

/-- append: nothing, in place for sure, or a new block (where the old one may have had room the old one is dead) -/
def appendA (P : Program) (hp : Tr Blk) (n : Nat) (t tx : TypeId) (s x : Value) (K : Value → Tr Blk → Nat → Bool) : Bool :=
  match P.underlying t, s with
  | some (.slice e), .slice base len cap => match esz P e, zeroOf P e with
    | some size, some z => match elemsA P hp size e tx x with
      | none => false
      | some (m, new) => bif !(len.ble cap) then false else bif m.beq 0 then K s hp n else
        bif !((2 * (len + m) * P.bytesOf e).ble 140737488355328 && (len + m).ble 1000000 && (m * P.bytesOf e).ble 140737488355328) then false else
        match base with
        | none => bif len.beq 0 && cap.beq 0 then Tr.putK deep hp n (.cells new (some (size, e, false))) fun hp => K (.slice (some ⟨n, 0, some 0⟩) m m) hp (n + 1) else false
        | some a => match hp.get a.block with
          | some (.cells c g) =>
            bif (len + m).ble cap then match setAt c (a.off + len * size) new with
              | some c => Tr.putK deep hp a.block (.cells c g) fun hp => K (.slice (some a) (len + m) cap) hp n
              | none => false
            else match takeN (len * size) (c.drop a.off) with
              | none => false
              | some old => match a.spot with
                | none => Tr.putK deep hp n (.cells (old ++ new) (some (size, e, false))) fun hp => K (.slice (some ⟨n, 0, some 0⟩) (len + m) (len + m)) hp (n + 1)
                | some _ => match g with
                  | some (es, e', _) => bif es.beq size && e'.beq e then Tr.putK deep hp n (.cells (old ++ new) (some (size, e, false))) fun hp => Tr.putK deep hp a.block .dead fun hp => K (.slice (some ⟨n, 0, some 0⟩) (len + m) (len + m)) hp (n + 1) else false
                  | none => false
          | _ => false
    | _, _ => false
  | _, _ => false

def copySrc (P : Program) (hp : Tr Blk) (size dlen : Nat) (x : Value) : Option (Nat × List Value) := match x with
  | .slice none n _ => bif n.beq 0 then some (0, []) else none
  | .slice (some a) n _ => bif (Nat.min n dlen).beq 0 then some (0, []) else match cellsAt hp a (Nat.min n dlen * size) with | some c => some (Nat.min n dlen, c) | none => none
  | .string s => bif size.beq 1 then some (Nat.min s.size dlen, (s.data.toList.take (Nat.min s.size dlen)).map fun b => .int .u8 b.toNat) else none
  | _ => none

def copyA (P : Program) (hp : Tr Blk) (t : TypeId) (d x : Value) (K : Value → Tr Blk → Bool) : Bool :=
  match P.underlying t, d with
  | some (.slice e), .slice base dlen _ => match esz P e with
    | none => false
    | some size => match copySrc P hp size dlen x with
      | none => false
      | some (m, new) => bif m.beq 0 then K (goInt 0) hp else match base with
        | none => false
        | some a => match hp.get a.block with
          | some (.cells c g) => match setAt c a.off new with
            | some c => Tr.putK deep hp a.block (.cells c g) fun hp => K (goInt m) hp
            | none => false
          | _ => false
  | _, _ => false

def clearA (P : Program) (hp : Tr Blk) (t : TypeId) (d : Value) (K : Tr Blk → Bool) : Bool :=
  match P.underlying t, d with
  | some (.slice _), .slice none _ _ => K hp
  | some (.slice e), .slice (some a) n _ => bif n.beq 0 then K hp else match hp.get a.block, zeroOf P e with
    | some (.cells c g), some z => match setAt c a.off (rep n z) with
      | some c => Tr.putK deep hp a.block (.cells c g) K
      | none => false
    | _, _ => false
  | _, _ => false

def liveB (hp : Tr Blk) (b : Nat) : Bool := match hp.get b with
  | some (.cells ..) => true
  | _ => false
/-- a string of bytes that lie there: the block is given up (its bytes may not be written any more) -/
def unsafeStrA (P : Program) (hp : Tr Blk) (pt : TypeId) (x : Value) (n : Nat) (K : Value → Tr Blk → Bool) : Bool := match x with
  | .pointer none => bif n.beq 0 then K (.string .empty) hp else false
  | .pointer (some ⟨b, 0, none⟩) => bif n.beq 0 then K (.string .empty) hp else match hp.get b, P.underlying pt with
    | some (.cells c (some (_, e, _))), some (.pointer e') => bif e.beq e' && (P.cellsOf e).beq 1 && n.ble 1000000 then match takeN n c with
      | some l => match bytesOf l with
        | some l => Tr.putK deep hp b .dead fun hp => K (.string ⟨⟨l⟩⟩) hp
        | none => false
      | none => false
      else false
    | _, _ => false
  | _ => false

/-- a function without a body, of which a run on such arguments looks at nothing -/
def externV (P : Program) (f : FuncId) (args : List Value) : Option Value := bif args.all plain then match pureRun P (callFunc f ⟨args⟩) with
  | some (.value v) => bif plain v then some v else none
  | _ => none
  else none
def isNoEsc (P : Program) (f : FuncId) : Bool := match P.funcs[f]? with
  | some fn => fn.name == "internal/abi.NoEscape" && fn.body.isNone && (Extern.findNext fn).isNone
  | none => false
/-- is f bytealg.MakeNoZero? the type of its bytes -/
def isNoZero (P : Program) (f : FuncId) : Option TypeId := match P.funcs[f]? with
  | some fn => bif fn.name == "internal/bytealg.MakeNoZero" && fn.body.isNone && (Extern.findNext fn).isNone then match fn.resultTypes[0]? with
    | some t => match P.underlying t with
      | some (.slice e) => bif (P.cellsOf e).beq 1 && (P.bytesOf e).beq 1 then some e else none
      | _ => none
    | none => none
    else none
  | none => none
/-- a byte of which nothing is known -/
@[reducible] def anyByte : Value := .chan (some 0)

abbrev RetK := Value → Tr Blk → Nat → Bool
abbrev CodeK := Exit → St → Bool

def natK (n : Nat) (K : Nat → Bool) : Bool := match n with
  | 0 => K 0
  | m + 1 => K (m + 1)
def intK (i : Int) (K : Int → Bool) : Bool := match i with
  | .ofNat n => natK n fun n => K (.ofNat n)
  | .negSucc n => natK n fun n => K (.negSucc n)
def addrK (a : Addr) (K : Addr → Bool) : Bool := match a with
  | ⟨b, o, s⟩ => natK b fun b => natK o fun o => match s with
    | none => K ⟨b, o, none⟩
    | some s => K ⟨b, o, some s⟩
/-- a value computed to its end -/
def valK (v : Value) (K : Value → Bool) : Bool := match v with
  | .int k n => intK n fun n => K (.int k n)
  | .bool true => K (.bool true)
  | .bool false => K (.bool false)
  | .slice none l c => natK l fun l => natK c fun c => K (.slice none l c)
  | .slice (some a) l c => addrK a fun a => natK l fun l => natK c fun c => K (.slice (some a) l c)
  | .pointer (some a) => addrK a fun a => K (.pointer (some a))
  | v => K v

inductive Cls | r | n | a
def cls (P : Program) (o : Oper) : Cls := match o.op with
  | .move _ | .pick .. | .load .. | .nilCheck _ | .fieldAddr .. | .indexAddr .. | .field .. | .index .. | .build .. | .extract .. | .makeFunc .. | .slice .. | .makeInterface .. | .binOp .. | .unOp .. => .r
  | .convert src dst _ => match P.underlying dst, P.underlying src with
    | some (.slice _), some .string => .n
    | some (.slice _), _ => .a
    | _, _ => .r
  | .call { callee := .builtin b, .. } => match b with | .len | .cap | .min | .max | .unsafeSliceData => .r | _ => .a
  | .alloc _ | .box .. | .buildSlice .. | .makeSlice .. | .makeMap .. => .n
  | _ => .a

def direct (o : Oper) : Nat := o.after.toList.foldl (fun s e => bif Region.binds .any e then s ||| 2 ^ e.on else s) 0
def ancs : List Oper → List Nat → List Nat
  | [], acc => acc
  | o :: os, acc => ancs os (acc ++ [o.after.toList.foldl (fun s e => bif Region.binds .any e then s ||| 2 ^ e.on ||| acc.getD e.on 0 else s) 0])

def subset (a b : Nat) : Bool := (a &&& b).beq a

def isActor (P : Program) (o : Oper) : Bool := match cls P o with | .a => true | _ => false

def firstReady (P : Program) (done : Nat) : List Oper → Nat → Option Nat
  | [], _ => none
  | o :: os, i => bif !(done.testBit i) && subset (direct o) done && !(isActor P o) then some i else firstReady P done os (i + 1)
def readyActs (P : Program) (done : Nat) : List Oper → Nat → List Nat
  | [], _ => []
  | o :: os, i => bif !(done.testBit i) && subset (direct o) done then i :: readyActs P done os (i + 1) else readyActs P done os (i + 1)

def plan (P : Program) (ops : List Oper) (anc : List Nat) : Nat → Nat → List Nat → Option (List (Nat × List Nat))
  | 0, done, _ => bif done.beq (2 ^ ops.length - 1) then some [] else none
  | f + 1, done, pend => match firstReady P done ops 0 with
    | some i => match plan P ops anc f (done ||| 2 ^ i) (i :: pend) with
      | some l => some ((i, []) :: l)
      | none => none
    | none => match readyActs P done ops 0 with
      | [k] => match plan P ops anc f (done ||| 2 ^ k) pend with
        | some l => some ((k, pend.filter fun j => !(anc.getD k 0).testBit j) :: l)
        | none => none
      | _ => none

/-- the slots that an operation looks at -/
def namesOf (ops : List Oper) (o : Oper) : List Tmp :=
  (o.op.operands.toList.filterMap fun | .tmp t => some t | _ => none) ++ (match o.guard with
    | some (j, _) => match ops[j]? with | some g => g.dst.toList | none => []
    | none => [])

def inNames (d : Option Tmp) (l : List Tmp) : Bool := match d with
  | some t => l.any fun u => u.beq t
  | none => false
def sameDst : Option Tmp → Option Tmp → Bool
  | some a, some b => a.beq b
  | _, _ => false

/-- is i, which is no actor, apart from all that it need not wait for? -/
def safeAt (ops : List Oper) (anc : List Nat) (i : Nat) (oi : Oper) : List Oper → Nat → Bool
  | [], _ => true
  | ok :: rest, k => (!(inNames oi.dst (namesOf ops ok)) || (!(k.beq i) && (anc.getD k 0).testBit i)) && (k.beq i || !(sameDst ok.dst oi.dst)) &&
      (!(inNames ok.dst (namesOf ops oi)) || (anc.getD k 0).testBit i || (anc.getD i 0).testBit k) && safeAt ops anc i oi rest (k + 1)

def safeAll (P : Program) (ops : List Oper) (anc : List Nat) : List Oper → Nat → Bool
  | [], _ => true
  | oi :: rest, i => (isActor P oi || safeAt ops anc i oi ops 0) && (match oi.guard with | some (j, _) => (anc.getD i 0).testBit j | none => true) && (oi.after.toList.all fun e => !(Region.binds .any e) || e.on.blt i) && safeAll P ops anc rest (i + 1)

def veq1 : Value → Value → Bool
  | .bool a, .bool b => a == b
  | .int j a, .int k b => j == k && a == b
  | .string a, .string b => a.data.toList == b.data.toList
  | .pointer a, .pointer b => a == b
  | .slice a l c, .slice b m d => a == b && l.beq m && c.beq d
  | .map a, .map b => a == b
  | .nilFunc, .nilFunc | .nilIface, .nilIface => true
  | _, _ => false
def veqs : List Value → List Value → Bool
  | [], [] => true
  | a :: x, b :: y => veq1 a b && veqs x y
  | _, _ => false
def veq : Value → Value → Bool
  | .agg ⟨a⟩, .agg ⟨b⟩ => veqs a b
  | .func (.func f) ⟨a⟩ ⟨c⟩, .func (.func g) ⟨b⟩ ⟨d⟩ => f.beq g && veqs a b && veqs c d
  | a, b => veq1 a b

structure Fns where
  code : Code → Nat → St → CodeK → Bool
  call : FuncId → List Value → Tr Blk → Nat → RetK → Bool

def putT (sz : Nat) (st : St) (d : Option Tmp) (v : Value) (K : St → Bool) : Bool := match d with
  | none => K st
  | some d => bif d.blt sz then Tr.putK deep st.tm d v fun tm => K { st with tm } else false

def yieldedA (ops : List Oper) (tm : Tr Value) (j : Nat) : Option Bool := match ops[j]? with
  | some o => match o.dst with
    | some d => match tm.get d with
      | some (.bool b) => some b
      | _ => none
    | none => none
  | none => none

/-- is f entered by a call? -/
def enters (P : Program) (f : FuncId) : Bool := match P.funcs[f]? with
  | some fn => fn.body.isSome && !(fn.name == "runtime.NumGoroutine")
  | none => false

def actA (P : Program) (S : Fns) (sz : Nat) (st : St) (o : Oper) (K : St → Bool) : Bool :=
  let undefd : Value := .tuple #[]
  match o.op with
  | .assign x => match ev st.tm x with | some v => putT sz st o.dst v K | none => false
  | .convert src dst x => match ev st.tm x, P.underlying dst, P.underlying src with
    | some (.slice (some ⟨b, a, none⟩) l c), some (.slice e), some (.slice _) => match P.underlying e with
      | some (.int .u8) => bif src.beq dst && liveB st.hp b then putT sz st o.dst (.slice (some ⟨b, a, none⟩) l c) K else false
      | _ => false
    | _, _, _ => false
  | .store t a x => match ev st.tm a, ev st.tm x with
    | some a, some x => storeA P st.hp t a x fun hp => putT sz { st with hp } o.dst undefd K
    | _, _ => false
  | .call { callee := .builtin b, args, argTypes } => match b, evs st.tm args.toList, argTypes.toList with
    | .append, some [s, x], [t, tx] => appendA P st.hp st.n t tx s x fun v hp n => valK v fun v => putT sz { st with hp, n } o.dst v K
    | .copy, some [d, x], [t, _] => copyA P st.hp t d x fun v hp => valK v fun v => putT sz { st with hp } o.dst v K
    | .unsafeString, some [x, .int .i64 (.ofNat n)], [pt, _] => unsafeStrA P st.hp pt x n fun v hp => putT sz { st with hp } o.dst v K
    | .clear, some [d], [t] => clearA P st.hp t d fun hp => putT sz { st with hp } o.dst (.tuple #[]) K
    | _, _, _ => false
  | .call { callee := .value f, args, .. } => match ev st.tm f, evs st.tm args.toList with
    | some (.func (.func f) ⟨first⟩ ⟨capt⟩), some args => bif enters P f then S.call f (first ++ args ++ capt) st.hp st.n fun v hp n => putT sz { st with hp, n } o.dst v K else
        match isNoZero P f, first ++ args ++ capt with
          | some el, [.int .i64 (.ofNat n)] => bif n.ble 1000000 then Tr.putK deep st.hp st.n (.cells (rep n [anyByte]) (some (1, el, false))) fun hp => putT sz { st with hp, n := st.n + 1 } o.dst (.slice (some ⟨st.n, 0, some 0⟩) n n) K else false
          | _, _ => match externV P f (first ++ args ++ capt) with
            | some v => valK v fun v => putT sz st o.dst v K
            | none => match first ++ args ++ capt with
              | [x] => bif isNoEsc P f then putT sz st o.dst x K else false
              | _ => false
    | _, _ => false
  | _ => false

def doOp (P : Program) (S : Fns) (sz : Nat) (st : St) (o : Oper) (K : St → Bool) : Bool := match cls P o with
  | .r => match evR P st.tm st.hp o with
    | some v => valK v fun v => putT sz st o.dst v K
    | none => false
  | .n => match evN P st.tm o with
    | some (b, mk) => Tr.putK deep st.hp st.n b fun hp => putT sz { st with hp, n := st.n + 1 } o.dst (mk st.n) K
    | none => false
  | .a => actA P S sz st o K

/-- the guard of an operation: is it carried out? -/
def wantedA (ops : List Oper) (tm : Tr Value) (o : Oper) : Bool := match o.guard with
  | none => true
  | some (j, want) => match yieldedA ops tm j with
    | some b => b == want
    | none => false

def evOp (P : Program) (S : Fns) (sz : Nat) (ops : List Oper) (st : St) (o : Oper) (K : St → Bool) : Bool :=
  bif wantedA ops st.tm o then doOp P S sz st o K else putT sz st o.dst (.tuple #[]) K

/-- a reader that was taken early reads as it did -/
def recheck (P : Program) (ops : List Oper) (st : St) (j : Nat) : Bool := match ops[j]? with
  | some o => match cls P o with
    | .r => bif wantedA ops st.tm o then
        match o.dst with
        | some d => match st.tm.get d, evR P st.tm st.hp o with
          | some v, some u => veq v u
          | _, _ => false
        | none => false
      else true
    | _ => true
  | none => false

def runOps (P : Program) (S : Fns) (sz : Nat) (ops : List Oper) : List (Nat × List Nat) → St → (St → Bool) → Bool
  | [], st, K => K st
  | (i, chk) :: rest, st, K => match ops[i]? with
    | some o => evOp P S sz ops st o fun st => bif chk.all (recheck P ops st) then runOps P S sz ops rest st K else false
    | none => false

def straight : Nat → Nat → List (Nat × List Nat)
  | 0, _ => []
  | f + 1, i => (i, []) :: straight f (i + 1)

def dstsLt (sz : Nat) (ops : List Oper) : Bool := ops.all fun o => match o.dst with | some d => d.blt sz | none => true

def planOf (P : Program) (sz : Nat) (ops : List Oper) (draw : Bool) : Option (List (Nat × List Nat)) :=
  bif draw then (bif safeAll P ops (ancs ops []) ops 0 && dstsLt sz ops then plan P ops (ancs ops []) ops.length 0 [] else none) else some (straight ops.length 0)

def stepCode (P : Program) (S : Fns) (c : Code) (sz : Nat) (st : St) (K : CodeK) : Bool := match c with
  | .skip => K .normal st
  | .label _ => K .normal st
  | .region _ ops draw => match planOf P sz ops.toList draw with
    | some pl => runOps P S sz ops.toList pl st fun st => K .normal st
    | none => false
  | .seq a b => S.code a sz st fun e st => match e with
    | .normal => S.code b sz st K
    | e => K e st
  | .cond c t e => match ev st.tm c with
    | some (.bool true) => S.code t sz st K
    | some (.bool false) => S.code e sz st K
    | _ => false
  | .block id body => S.code body sz st fun e st => match e with
    | .exit id' => bif id'.beq id then K .normal st else K (.exit id') st
    | e => K e st
  | .loop body => S.code body sz st fun e st => match e with
    | .normal => S.code (.loop body) sz st K
    | e => K e st
  | .exit id => K (.exit id) st
  | .ret => K .ret st
  | .scope body => S.code body sz st fun e st => match e with
    | .goto _ => false
    | e => K e st
  | _ => false

/-- what a slot holds -/
def tmv (tm : Tr Value) (t : Tmp) : Value := match tm.get t with | some v => v | none => .tuple #[]

def resOf (P : Program) (st : St) : List ResultVar → Option (List Value)
  | [] => some []
  | .tmp t :: rs => match resOf P st rs with
    | some l => some (tmv st.tm t :: l)
    | none => none
  | .cell a t :: rs => match st.tm.get a with
    | some x => match loadA P st.hp t x with
      | some v => match resOf P st rs with
        | some l => some (v :: l)
        | none => none
      | none => none
    | none => none

/-- what a call gives back -/
def retV : List Value → Value
  | [v] => v
  | vs => .tuple ⟨vs⟩

def argsK : List Value → Nat → Tr Value → (Tr Value → Bool) → Bool
  | [], _, t, K => K t
  | v :: vs, i, t, K => Tr.putK deep t i v fun t => argsK vs (i + 1) t K

def stepCall (P : Program) (S : Fns) (f : FuncId) (args : List Value) (hp : Tr Blk) (n : Nat) (K : RetK) : Bool :=
  match P.funcs[f]? with
  | some fn => match fn.body with
    | some c => bif args.length.ble fn.ntmps then argsK args 0 .nil fun tm =>
        S.code c fn.ntmps ⟨tm, hp, n⟩ fun e st => match e with
          | .normal | .ret => match resOf P st fn.results.toList with
            | some vs => K (retV vs) st.hp st.n
            | none => false
          | _ => false
      else false
    | none => false
  | none => false

def ev' (P : Program) : Nat → Fns
  | 0 => ⟨fun _ _ _ _ => false, fun _ _ _ _ _ => false⟩
  | n + 1 => ⟨stepCode P (ev' P n), stepCall P (ev' P n)⟩

def isTrue : RetK := fun v _ _ => match v with | .bool true => true | _ => false
def runs (P : Program) (f : FuncId) (fuel : Nat) : Bool := (ev' P fuel).call f [] .nil 1 isTrue
/-- package variables of which what they hold is known: they are only read -/
def layG : List (Nat × List Value) → Nat → Tr Blk → (Tr Blk → Bool) → Bool
  | [], _, hp, K => K hp
  | (g, c) :: r, N, hp, K => bif (g + 1).blt N && c.all flat then Tr.putK deep hp (g + 1) (.ro c) fun hp => layG r N hp K else false
def runsG (P : Program) (G : List (Nat × List Value)) (N : Nat) (f : FuncId) (fuel : Nat) : Bool := bif Nat.blt 0 N then layG G N .nil fun hp => (ev' P fuel).call f [] hp N isTrue else false

end Go.Proofs.YtgpnfdeneagdbaaGreat.Rf
