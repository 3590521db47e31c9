/- The steps of the symbolic machine, as plain functions. Nothing is claimed here. -/
import Derived.Test.YtladpdndjcgebaaSxA
namespace Go.Proofs.Ytladpdndjcgebaa.Sx
set_option linter.unusedVariables false
open Go

inductive TK where
  | int (k : IntKind) | bool | str | ptr (e : Nat) | sl (e : Nat) | arr (n e : Nat) | map (k e : Nat)
  | st (fs : List (Nat × Nat))
  | fn
  | other

def TK.isOther : TK → Bool
  | .other => true
  | _ => false

structure TI where
  k : TK
  sz : Nat
  by_ : Nat
  z : List PV
  eq : Bool

abbrev Ty := Nat → TI

def lget : List SV → Nat → SV
  | [], _ => .t []
  | x :: _, 0 => x
  | _ :: l, n + 1 => lget l n
def lset : List SV → Nat → SV → List SV
  | [], _, _ => []
  | _ :: l, 0, e => e :: l
  | x :: l, n + 1, e => x :: lset l n e
def put (t : List SV) : Option Nat → SV → List SV
  | some d, e => lset t d e
  | none, _ => t

def ofV : Value → SV
  | .int k n => .c (.i k n)
  | .bool b => .c (.b b)
  | .string s => .c (.s s.data.toList)
  | .pointer a => .c (.v (.pointer a))
  | .slice a n c => .c (.v (.slice a n c))
  | .map r => .c (.v (.map r))
  | .nilFunc => .c (.v .nilFunc)
  | .nilIface => .c (.v .nilIface)
  | _ => .top
def ofVal : Value → SV
  | .agg cs => .a (cs.toList.map ofV)
  | .tuple cs => .t (cs.toList.map ofV)
  | .func (.func f) first caps => if first.isEmpty && caps.isEmpty then .fn f [] else .top
  | e => ofV e
def ev (t : List SV) : Operand → SV
  | .tmp n => lget t n
  | .const e => ofVal e
  | .global g => .c (.v (.pointer (some ⟨g, 0, none⟩)))
  | .func f => .fn f []

/-- n cells from off on. -/
def ldrop : Nat → List SV → Option (List SV)
  | 0, l => some l
  | _ + 1, [] => none
  | n + 1, _ :: l => ldrop n l
def ltake : Nat → List SV → Option (List SV)
  | 0, _ => some []
  | _ + 1, [] => none
  | n + 1, x :: l => match ltake n l with | some r => some (x :: r) | none => none
def lslice (off n : Nat) (l : List SV) : Option (List SV) := match ldrop off l with | some r => ltake n r | none => none
/-- cells written from off on. -/
def lover : List SV → List SV → Option (List SV)
  | [], l => some l
  | _ :: _, [] => none
  | x :: xs, _ :: l => match lover xs l with | some r => some (x :: r) | none => none
def lput : Nat → List SV → List SV → Option (List SV)
  | 0, xs, l => lover xs l
  | _ + 1, _, [] => none
  | n + 1, xs, y :: l => match lput n xs l with | some r => some (y :: r) | none => none
def llen : List SV → Nat
  | [] => 0
  | _ :: l => llen l + 1

def tab (g : Nat → PV) (j : Nat) : Nat → List SV
  | 0 => []
  | n + 1 => .c (g j) :: tab g (j + 1) n

def TI.agg (i : TI) : Bool := match i.k with | .st _ => true | .arr _ _ => true | _ => false
def cellsOf : SV → List SV
  | .a l => l
  | s => [s]
def pack (i : TI) (l : List SV) : SV := match i.agg with
  | true => .a l
  | false => match l with | [s] => s | _ => .c .x
/-- One cell each. -/
def flat : List SV → Bool
  | [] => true
  | .a _ :: _ => false
  | .t _ :: _ => false
  | .top :: _ => false
  | _ :: l => flat l
def consts : List SV → Option (List PV)
  | [] => some []
  | .c p :: l => match consts l with | some r => some (p :: r) | none => none
  | _ :: _ => none
def pget : List PV → Nat → PV
  | [], _ => .x
  | y :: _, 0 => y
  | _ :: l, n + 1 => pget l n

/-- the element function of a literal list; of two lists one behind the other; of one with an element written over. -/
def lit (sz : Nat) (l : List PV) : Nat → Nat → PV := fun i j => pget l (i * sz + j)
def app (n : Nat) (f g : Nat → Nat → PV) : Nat → Nat → PV := fun i j => if i < n then f i j else g (i - n) j
def sub (st : Nat) (f : Nat → Nat → PV) : Nat → Nat → PV := fun i j => f (st + i) j
def upd (f : Nat → Nat → PV) (i0 j0 : Nat) (l : List PV) : Nat → Nat → PV := fun i j => if i = i0 ∧ j0 ≤ j ∧ j < j0 + l.length then pget l (j - j0) else f i j
def zeroF (z : List PV) : Nat → Nat → PV := fun _ j => pget z j

inductive Res where
  | ok (vc : Prop) (s : SV) (rd : List Nat) (wr : List (Nat × Ch))
  | call (f : Nat) (args : List SV)
  | bad (why : String)

/-- The chunks behind a step: those that are written are set, new ones follow. -/
def hset : List Ch → Nat → Ch → List Ch
  | [], 0, e => [e]
  | [], n + 1, e => .none :: hset [] n e
  | _ :: l, 0, e => e :: l
  | x :: l, n + 1, e => x :: hset l n e
def hsets : List Ch → List (Nat × Ch) → List Ch
  | H, [] => H
  | H, (c, e) :: r => hsets (hset H c e) r
def hlen : List Ch → Nat
  | [] => 0
  | _ :: l => hlen l + 1

def undefS : SV := .t []

def opLoad (i : TI) (H : List Ch) (x : SV) : Res := match i.k.isOther with
  | true => .bad "load: type"
  | false => match x with
  | .p C off => match hget H C with
    | .cells _ l => match lslice off i.sz l with
      | some r => .ok True (pack i r) [C] []
      | none => .bad "load: beyond the cells"
    | _ => .bad "load: no cells"
  | .q C k j => match hget H C with
    | .vec _ sz n f => .ok (k < n ∧ j + i.sz ≤ sz) (pack i (tab (f k) j i.sz)) [C] []
    | _ => .bad "load: no vec"
  | .pe n g => .ok (i.sz ≤ n) (pack i (tab g 0 i.sz)) [] []
  | _ => .bad "load: of what?"

def opStore (i : TI) (H : List Ch) (a v : SV) : Res := match i.k.isOther with
  | true => .bad "store: type"
  | false =>
  if llen (cellsOf v) = i.sz ∧ flat (cellsOf v) = true then
    match a with
    | .p C off => match hget H C with
      | .cells T l => match lput off (cellsOf v) l with
        | some r => .ok True undefS [] [(C, .cells T r)]
        | none => .bad "store: beyond the cells"
      | _ => .bad "store: no cells"
    | .q C k j => match hget H C with
      | .vec T sz n f => match consts (cellsOf v) with
        | some l => .ok (k < n ∧ j + i.sz ≤ sz) undefS [] [(C, .vec T sz n (upd f k j l))]
        | none => .bad "store: no plain value"
      | _ => .bad "store: no vec"
    | _ => .bad "store: where?"
  else .bad "store: size"

def fillS (place : Nat → Option (Nat × Nat)) (l : List SV) (tm : List SV) : List (Nat × Operand) → Option (List SV)
  | [] => some l
  | (i, x) :: rest => match place i with
    | none => none
    | some (off, size) => if llen (cellsOf (ev tm x)) = size ∧ flat (cellsOf (ev tm x)) = true then
        match lput off (cellsOf (ev tm x)) l with
        | some r => fillS place r tm rest
        | none => none
      else none
def nth {α : Type} : List α → Nat → Option α
  | [], _ => none
  | x :: _, 0 => some x
  | _ :: l, n + 1 => nth l n
def rep (n : Nat) (z : List SV) : List SV := match n with | 0 => [] | n + 1 => z ++ rep n z
def mapC : List PV → List SV
  | [] => []
  | p :: l => .c p :: mapC l

def placeS (ty : Ty) (fs : List (Nat × Nat)) (i : Nat) : Option (Nat × Nat) := match nth fs i with
  | some (off, e) => some (off, (ty e).sz)
  | none => none
def placeA (sz i : Nat) : Option (Nat × Nat) := some (i * sz, sz)

def knownF (ty : Ty) : List (Nat × Nat) → Bool
  | [] => true
  | (_, e) :: l => !(ty e).k.isOther && knownF ty l

def opBuild (ty : Ty) (T : Nat) (tm : List SV) (parts : List (Nat × Operand)) : Res :=
  match (ty T).k with
  | .st fs => if knownF ty fs = false then .bad "build: fields" else match fillS (placeS ty fs) (mapC (ty T).z) tm parts with
    | some l => .ok True (.a l) [] []
    | none => .bad "build"
  | .arr _ e => if (ty e).k.isOther = true then .bad "build: element" else match fillS (placeA (ty e).sz) (mapC (ty T).z) tm parts with
    | some l => .ok True (.a l) [] []
    | none => .bad "build"
  | _ => .bad "build: of what?"

def opBuildSlice (ty : Ty) (H : List Ch) (T n : Nat) (tm : List SV) (parts : List (Nat × Operand)) : Res :=
  match (ty T).k with
  | .sl e => if (ty e).k.isOther = true ∨ 16777216 < n * (ty e).sz ∨ (ty e).sz = 0 then .bad "buildSlice: element" else match fillS (placeA (ty e).sz) (rep n (mapC (ty e).z)) tm parts with
    | some l => match consts l with
      | some ps => .ok True (.sl (hlen H) 0 n none) [] [(hlen H, .vec e (ty e).sz n (lit (ty e).sz ps))]
      | none => .bad "buildSlice: no plain elements"
    | none => .bad "buildSlice"
  | _ => .bad "buildSlice: of what?"

def opFieldAddr (ty : Ty) (T f : Nat) : SV → Res := fun s =>
  match (ty T).k with
  | .st fs => match nth fs f with
    | some (off, e) => if (ty e).k.isOther = true ∨ (ty e).sz = 0 then .bad "fieldAddr: nothing there" else match s with
      | .p C o => .ok True (.p C (o + off)) [] []
      | .q C i j => .ok True (.q C i (j + off)) [] []
      | .pe n g => .ok (off ≤ n) (.pe (n - off) fun k => g (off + k)) [] []
      | _ => .bad "fieldAddr: of what?"
    | none => .bad "fieldAddr: which?"
  | _ => .bad "fieldAddr: no struct"

def opField (ty : Ty) (T f : Nat) : SV → Res := fun s =>
  match (ty T).k with
  | .st fs => match nth fs f with
    | some (off, e) => if (ty e).k.isOther = true then .bad "field: type" else match s with
      | .a l => match lslice off (ty e).sz l with
        | some r => .ok True (pack (ty e) r) [] []
        | none => .bad "field: beyond"
      | _ => .bad "field: of what?"
    | none => .bad "field: which?"
  | _ => .bad "field: no struct"

def opIndexAddr (ty : Ty) (H : List Ch) (T : Nat) : SV → SV → Res
  | .sl C st len _, .c (.i _ n) => match (ty T).k with
    | .sl e => match hget H C with
      | .vec _ sz _ _ => if sz = (ty e).sz ∧ (ty e).k.isOther = false then .ok (0 ≤ n ∧ n < (len : Int)) (.q C (st + n.toNat) 0) [C] [] else .bad "indexAddr: size"
      | _ => .bad "indexAddr: no vec"
    | _ => .bad "indexAddr: type"
  | .sc C off sz len _, .c (.i _ n) => match (ty T).k with
    | .sl e => if sz = (ty e).sz ∧ (ty e).k.isOther = false then .ok (0 ≤ n ∧ n < (len : Int)) (.p C (off + n.toNat * sz)) [] [] else .bad "indexAddr: size"
    | _ => .bad "indexAddr: type"
  | .c (.ps sz len f), .c (.i _ n) => match (ty T).k with
    | .sl e => if sz = (ty e).sz ∧ (ty e).k.isOther = false then .ok (0 ≤ n ∧ n < (len : Int)) (.pe sz (f n.toNat)) [] [] else .bad "indexAddr: size"
    | _ => .bad "indexAddr: type"
  | .p C off, .c (.i _ n) => match (ty T).k with
    | .arr N e => if (ty e).k.isOther = true then .bad "indexAddr: type" else .ok (0 ≤ n ∧ n < (N : Int)) (.p C (off + n.toNat * (ty e).sz)) [] []
    | _ => .bad "indexAddr: type"
  | .q C i j, .c (.i _ n) => match (ty T).k with
    | .arr N e => if (ty e).k.isOther = true then .bad "indexAddr: type" else .ok (0 ≤ n ∧ n < (N : Int)) (.q C i (j + n.toNat * (ty e).sz)) [] []
    | _ => .bad "indexAddr: type"
  | _, _ => .bad "indexAddr: of what?"

def opIndex (ty : Ty) (T : Nat) : SV → SV → Res
  | .a l, .c (.i _ n) => match (ty T).k with
    | .arr N e => if (ty e).k.isOther = true then .bad "index: type" else match lslice (n.toNat * (ty e).sz) (ty e).sz l with
      | some r => .ok (0 ≤ n ∧ n < (N : Int)) (pack (ty e) r) [] []
      | none => .bad "index: beyond"
    | _ => .bad "index: type"
  | .c (.s l), .c (.i _ n) => match (ty T).k with
    | .str => .ok (0 ≤ n ∧ n < (l.length : Int)) (.c (.i .u8 ((l.getD n.toNat 0).toNat : Int))) [] []
    | _ => .bad "index: type"
  | _, _ => .bad "index: of what?"

def intOf : SV → Option Int
  | .c (.i _ n) => some n
  | _ => none
def bound (tm : List SV) (d : Int) : Option Operand → Option Int
  | some x => intOf (ev tm x)
  | none => some d

def opSlice (ty : Ty) (H : List Ch) (T : Nat) (tm : List SV) (x : Operand) (lo hi mx : Option Operand) : Res :=
  match ev tm x with
  | .sl C st len lim => match (ty T).k with
    | .sl e => match hget H C with
     | .vec _ sz _ _ => if sz = (ty e).sz ∧ (ty e).k.isOther = false then match bound tm 0 lo, bound tm len hi, mx with
      | some l, some h, none => .ok (0 ≤ l ∧ l ≤ h ∧ h ≤ (len : Int)) (.sl C (st + l.toNat) (h.toNat - l.toNat) (match lim with | none => none | some k => some (k - l.toNat))) [C] []
      | some l, some h, some m => match intOf (ev tm m), hi with
        | some m, some _ => .ok (0 ≤ l ∧ l ≤ h ∧ h ≤ m ∧ m ≤ (len : Int)) (.sl C (st + l.toNat) (h.toNat - l.toNat) (some (m.toNat - l.toNat))) [C] []
        | _, _ => .bad "slice: max"
      | _, _, _ => .bad "slice: bounds"
      else .bad "slice: size"
     | _ => .bad "slice: no vec"
    | _ => .bad "slice: type"
  | .c (.ps sz len f) => match (ty T).k with
    | .sl e => if sz = (ty e).sz ∧ (ty e).k.isOther = false then match bound tm 0 lo, bound tm len hi, mx with
      | some l, some h, none => .ok (0 ≤ l ∧ l ≤ h ∧ h ≤ (len : Int)) (.c (.ps sz (h.toNat - l.toNat) (sub l.toNat f))) [] []
      | some l, some h, some m => match intOf (ev tm m), hi with
        | some m, some _ => .ok (0 ≤ l ∧ l ≤ h ∧ h ≤ m ∧ m ≤ (len : Int)) (.c (.ps sz (h.toNat - l.toNat) (sub l.toNat f))) [] []
        | _, _ => .bad "slice: max"
      | _, _, _ => .bad "slice: bounds"
      else .bad "slice: size"
    | _ => .bad "slice: type"
  | .p C off => match (ty T).k with
    | .arr N e => if (ty e).k.isOther = true then .bad "slice: type" else match bound tm 0 lo, bound tm N hi, mx with
      | some l, some h, none => .ok (0 ≤ l ∧ l ≤ h ∧ h ≤ (N : Int)) (.sc C (off + l.toNat * (ty e).sz) (ty e).sz (h.toNat - l.toNat) (N - l.toNat)) [] []
      | _, _, _ => .bad "slice: bounds"
    | _ => .bad "slice: type"
  | .c (.s b) => match (ty T).k with
    | .str => match bound tm 0 lo, bound tm b.length hi, mx with
      | some l, some h, none => .ok (0 ≤ l ∧ l ≤ h ∧ h ≤ (b.length : Int)) (.c (.s ((b.drop l.toNat).take (h.toNat - l.toNat)))) [] []
      | _, _, _ => .bad "slice: bounds"
    | _ => .bad "slice: type"
  | .c (.v (.slice none 0 0)) => match (ty T).k with
    | .sl e => if (ty e).k.isOther = true then .bad "slice: type" else match bound tm 0 lo, bound tm 0 hi, mx with
      | some l, some h, none => .ok (0 ≤ l ∧ l ≤ h ∧ h ≤ 0) (.c (.v (.slice none 0 0))) [] []
      | some l, some h, some m => match intOf (ev tm m), hi with
        | some m, some _ => .ok (0 ≤ l ∧ l ≤ h ∧ h ≤ m ∧ m ≤ 0) (.c (.v (.slice none 0 0))) [] []
        | _, _ => .bad "slice: max"
      | _, _, _ => .bad "slice: bounds"
    | _ => .bad "slice: type"
  | _ => .bad "slice: of what?"

/-- Are two lists of plain cells the same, cell by cell? -/
def eqL : List SV → List SV → Option Bool
  | [], [] => some true
  | .c (.i k a) :: l, .c (.i j b) :: r => if k = j then match eqL l r with | some e => some (a == b && e) | none => none else none
  | _, _ => none

def eqS (i : TI) : SV → SV → Option Bool
  | .c (.b a), .c (.b b) => match i.k with | .bool => some (a == b) | _ => none
  | .c (.s a), .c (.s b) => match i.k with | .str => some (a == b) | _ => none
  | .a l, .a r => match i.eq && i.agg && (llen l == i.sz) && (llen r == i.sz) with | true => eqL l r | false => none
  | .p _ _, .c (.v (.pointer none)) => match i.k with | .ptr _ => some false | _ => none
  | .c (.v (.pointer none)), .p _ _ => match i.k with | .ptr _ => some false | _ => none
  | .c (.v (.pointer none)), .c (.v (.pointer none)) => match i.k with | .ptr _ => some true | _ => none
  | .c (.v (.slice none _ _)), .c (.v (.slice none _ _)) => match i.k with | .sl _ => some true | _ => none
  | _, _ => none

def intBin (op : BinOp) (k : IntKind) (a b : Int) : Res :=
  match op with
  | .add => .ok True (.c (.i k (k.wrap (a + b)))) [] []
  | .sub => .ok True (.c (.i k (k.wrap (a - b)))) [] []
  | .mul => .ok True (.c (.i k (k.wrap (a * b)))) [] []
  | .quo => .ok (b ≠ 0) (.c (.i k (k.wrap (a.tdiv b)))) [] []
  | .rem => .ok (b ≠ 0) (.c (.i k (a.tmod b))) [] []
  | .and => .ok True (.c (.i k (bits .and k a b))) [] []
  | .or => .ok True (.c (.i k (bits .or k a b))) [] []
  | .xor => .ok True (.c (.i k (bits .xor k a b))) [] []
  | .andNot => .ok True (.c (.i k (bits .andNot k a b))) [] []
  | .eql => .ok True (.c (.b (a == b))) [] []
  | .neq => .ok True (.c (.b (a != b))) [] []
  | .lss => .ok True (.c (.b (decide (a < b)))) [] []
  | .leq => .ok True (.c (.b (decide (a ≤ b)))) [] []
  | .gtr => .ok True (.c (.b (decide (b < a)))) [] []
  | .geq => .ok True (.c (.b (decide (b ≤ a)))) [] []
  | _ => .bad "binOp: int"

def opBin (ty : Ty) (op : BinOp) (T : Nat) : SV → SV → Res
  | .c (.i k a), .c (.i j b) => match op with
    | .shl => .ok (0 ≤ b) (.c (.i k (k.wrap (a * 2 ^ (min b.toNat k.bits))))) [] []
    | .shr => .ok (0 ≤ b) (.c (.i k (a.fdiv (2 ^ (min b.toNat k.bits))))) [] []
    | op => if k = j then intBin op k a b else .bad "binOp: kinds"
  | x, y => match op with
    | .eql => match eqS (ty T) x y with | some e => .ok True (.c (.b e)) [] [] | none => .bad "binOp: eql"
    | .neq => match eqS (ty T) x y with | some e => .ok True (.c (.b (!e))) [] [] | none => .bad "binOp: neq"
    | _ => .bad "binOp: of what?"

def opUn : UnOp → SV → Res
  | .not, .c (.b e) => .ok True (.c (.b (!e))) [] []
  | .neg, .c (.i k n) => .ok True (.c (.i k (k.wrap (0 - n)))) [] []
  | _, _ => .bad "unOp"

end Go.Proofs.Ytladpdndjcgebaa.Sx
