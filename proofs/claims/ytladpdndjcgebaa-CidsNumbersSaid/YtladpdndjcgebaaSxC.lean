/- The steps of the symbolic machine: built-in functions, maps, one operation. Nothing is claimed here. -/
import Derived.Test.YtladpdndjcgebaaSxB
namespace Go.Proofs.Ytladpdndjcgebaa.Sx
set_option linter.unusedVariables false
open Go

def bytesF (b : List UInt8) : Nat → Nat → PV := fun i _ => .i .u8 ((b.getD i 0).toNat : Int)
def byteOf : PV → UInt8
  | .i _ n => UInt8.ofNat n.toNat
  | _ => 0
def IsByte (p : PV) : Prop := ∃ n, p = .i .u8 n
def bytesOf (n : Nat) (f : Nat → Nat → PV) : List UInt8 := (List.range n).map fun i => byteOf (f i 0)

/-- What a slice or a string holds: its length, its elements, the chunks that are read, what must hold. -/
def srcOf (sz : Nat) (H : List Ch) : SV → Option (Nat × (Nat → Nat → PV) × List Nat × Prop)
  | .sl C st len _ => match hget H C with
    | .vec _ sz' n f => if sz' = sz then some (len, sub st f, [C], st + len ≤ n) else none
    | _ => none
  | .sc C off sz' len _ => match hget H C with
    | .cells _ l => if sz' = sz then match lslice off (len * sz) l with
        | some r => match consts r with
          | some ps => some (len, lit sz ps, [C], True)
          | none => none
        | none => none
      else none
    | _ => none
  | .c (.ps sz' n f) => if sz' = sz then some (n, f, [], True) else none
  | .c (.v (.slice none 0 0)) => some (0, (fun _ _ => .x), [], True)
  | .c (.s b) => if sz = 1 then some (b.length, bytesF b, [], True) else none
  | _ => none

def opAppend (ty : Ty) (H : List Ch) (T : Nat) (d x : SV) : Res :=
  match (ty T).k with
  | .sl e => if (ty e).sz = 0 ∨ (ty e).k.isOther = true then .bad "append: of nothing" else match srcOf (ty e).sz H x with
    | some (m, g, rd, vc) => match d with
      | .c (.v (.slice none 0 0)) => .ok (vc ∧ m * (ty e).by_ ≤ 140737488355328 ∧ m ≤ 9223372036854775807) (.sl (hlen H) 0 m none) rd [(hlen H, .vec e (ty e).sz m g)]
      | .sl C st len none => match hget H C with
        | .vec T' sz n f => if sz = (ty e).sz ∧ T' = e then
            .ok (vc ∧ st + len ≤ n ∧ (len + m) * (ty e).by_ ≤ 140737488355328 ∧ len + m ≤ 9223372036854775807) (.sl (hlen H) 0 (len + m) none) rd
              [(C, .none), (hlen H, .vec e (ty e).sz (len + m) (app len (sub st f) g))]
          else .bad "append: size"
        | _ => .bad "append: no vec"
      | .sl C st len (some k) => match hget H C with
        | .vec _ sz n f => if sz = (ty e).sz then
            .ok (vc ∧ k < len + m ∧ st + len ≤ n ∧ (len + m) * (ty e).by_ ≤ 140737488355328 ∧ len + m ≤ 9223372036854775807) (.sl (hlen H) 0 (len + m) none) (C :: rd)
              [(hlen H, .vec e (ty e).sz (len + m) (app len (sub st f) g))]
          else .bad "append: size"
        | _ => .bad "append: no vec"
      | _ => .bad "append: to what?"
    | none => .bad "append: of what?"
  | _ => .bad "append: type"

/-- n elements written over from st on. -/
def over (f : Nat → Nat → PV) (st n : Nat) (g : Nat → Nat → PV) : Nat → Nat → PV := fun i j => if st ≤ i ∧ i < st + n then g (i - st) j else f i j
def tabE (sz : Nat) (g : Nat → Nat → PV) (i : Nat) : Nat → List SV
  | 0 => []
  | n + 1 => tab (g i) 0 sz ++ tabE sz g (i + 1) n

def opCopy (ty : Ty) (H : List Ch) (T : Nat) (d x : SV) : Res :=
  match (ty T).k with
  | .sl e => if (ty e).sz = 0 ∨ (ty e).k.isOther = true then .bad "copy: of nothing" else match srcOf (ty e).sz H x with
    | some (m, g, rd, vc) => match d with
      | .sl C st len _ => match hget H C with
        | .vec T' sz n f => if sz = (ty e).sz then
            .ok (vc ∧ st + len ≤ n) (.c (.i .i64 ((min m len : Nat) : Int))) rd [(C, .vec T' sz n (over f st (min m len) g))]
          else .bad "copy: size"
        | _ => .bad "copy: no vec"
      | .sc C off sz len _ => match hget H C with
        | .cells T' l => if sz = (ty e).sz then match lput off (tabE sz g 0 (min m len)) l with
            | some r => .ok vc (.c (.i .i64 ((min m len : Nat) : Int))) rd [(C, .cells T' r)]
            | none => .bad "copy: beyond"
          else .bad "copy: size"
        | _ => .bad "copy: no cells"
      | _ => .bad "copy: where?"
    | none => .bad "copy: of what?"
  | _ => .bad "copy: type"

def opLen (ty : Ty) (H : List Ch) (T : Nat) (x : SV) : Res :=
  match (ty T).k with
  | .arr n _ => .ok True (.c (.i .i64 (n : Int))) [] []
  | .ptr t => match (ty t).k with
    | .arr n _ => .ok True (.c (.i .i64 (n : Int))) [] []
    | _ => .bad "len: type"
  | .sl _ => match x with
    | .sl _ _ len _ => .ok True (.c (.i .i64 (len : Int))) [] []
    | .sc _ _ _ len _ => .ok True (.c (.i .i64 (len : Int))) [] []
    | .c (.ps _ n _) => .ok True (.c (.i .i64 (n : Int))) [] []
    | .c (.v (.slice none 0 0)) => .ok True (.c (.i .i64 0)) [] []
    | .c (.v (.slice _ n _)) => .ok True (.c (.i .i64 (n : Int))) [] []
    | _ => .bad "len: slice"
  | .str => match x with
    | .c (.s b) => .ok True (.c (.i .i64 (b.length : Int))) [] []
    | _ => .bad "len: string"
  | .map _ _ => match x with
    | .m C => match hget H C with
      | .map _ n _ _ => .ok True (.c (.i .i64 (n : Int))) [C] []
      | _ => .bad "len: no map"
    | .c (.v (.map none)) => .ok True (.c (.i .i64 0)) [] []
    | _ => .bad "len: map"
  | _ => .bad "len: type"

def opMinMax (mx : Bool) : SV → List SV → Res
  | .c (.i k n), [] => .ok True (.c (.i k n)) [] []
  | .c (.i k n), .c (.i _ m) :: r => opMinMax mx (.c (.i k (match mx with | true => if n < m then m else n | false => if m < n then m else n))) r
  | _, _ => .bad "min, max"

def opConvert (ty : Ty) (H : List Ch) (S D : Nat) (x : SV) : Res := match (ty S).k.isOther with
  | true => .bad "convert: from what?"
  | false => match (ty D).k with
  | .int k => match x with
    | .c (.i _ n) => .ok True (.c (.i k (k.wrap n))) [] []
    | _ => .bad "convert: int"
  | .str => match x with
    | .c (.s b) => .ok True (.c (.s b)) [] []
    | x => match (ty S).k with
      | .sl e => match (ty e).k with
        | .int .u8 => match srcOf 1 H x with
          | some (n, f, rd, vc) => .ok (vc ∧ ∀ i, i < n → IsByte (f i 0)) (.c (.s (bytesOf n f))) rd []
          | none => .bad "convert: bytes of what?"
        | _ => .bad "convert: string of what?"
      | _ => .bad "convert: string"
  | .sl e => match (ty e).k, x with
    | .int .u8, .c (.s b) => .ok (b.length ≤ 9223372036854775807) (.sl (hlen H) 0 b.length none) [] [(hlen H, .vec e 1 b.length (bytesF b))]
    | _, _ => .bad "convert: slice"
  | _ => .bad "convert"

def keyL (k : IntKind) : List SV → Option (List Int)
  | [] => some []
  | .c (.i j n) :: l => if j = k then match keyL k l with | some r => some (n :: r) | none => none else none
  | _ :: _ => none
/-- The kind of a map's type. -/
def mkOf (ty : Ty) (K E : Nat) : Option MK := match (ty E).k.isOther with
  | true => none
  | false => match (ty K).k with
    | .int k => some ⟨k, false, 1, (ty E).agg⟩
    | .arr n e => match (ty K).eq, (ty e).k with
      | true, .int k => if (ty K).sz = n ∧ (ty e).sz = 1 then some ⟨k, true, n, (ty E).agg⟩ else none
      | _, _ => none
    | _ => none
def keyS (k : MK) : SV → Option (List Int)
  | .c (.i j n) => if k.ag = false ∧ j = k.kk then some [n] else none
  | .a l => if k.ag = true ∧ llen l = k.ks then keyL k.kk l else none
  | _ => none

def packO (i : TI) : Option (List PV) → SV
  | some l => pack i (mapC l)
  | none => pack i (mapC i.z)
def mset (g : List Int → Option (List PV)) (k : List Int) (l : List PV) : List Int → Option (List PV) := fun k' => if k' = k then some l else g k'
def mdel (g : List Int → Option (List PV)) (k : List Int) : List Int → Option (List PV) := fun k' => if k' = k then none else g k'
def mcount (n : Nat) (g : List Int → Option (List PV)) (k : List Int) : Nat := match g k with | some _ => n | none => n + 1
def mdcount (n : Nat) (g : List Int → Option (List PV)) (k : List Int) : Nat := match g k with | some _ => n - 1 | none => n
def mkeep (g : List Int → Option (List PV)) (k : List Int) (z : List PV) : List PV := match g k with | some l => l | none => z

/-- The map behind a name, its kind and the key. -/
def mapAt (ty : Ty) (H : List Ch) (T : Nat) (x k : SV) : Option (Nat × Nat × MK × Nat × (List Int → Option (List PV)) × List (Nat × List Int) × List Int) :=
  match (ty T).k with
  | .map K E => match mkOf ty K E with
    | some mk => match keyS mk k with
      | some key => match x with
        | .m C => match hget H C with
          | .map mk' n g sts => if mk' = mk then some (C, E, mk, n, g, sts, key) else none
          | _ => none
        | _ => none
      | none => none
    | none => none
  | _ => none

def opLookup (ty : Ty) (H : List Ch) (T : Nat) (x k : SV) (ok : Bool) : Res :=
  match mapAt ty H T x k with
  | some (C, E, _, _, g, _, key) => .ok True (match ok with | true => .t [packO (ty E) (g key), .c (.b (g key).isSome)] | false => packO (ty E) (g key)) [C] []
  | none => .bad "lookup"

def opMapUpdate (ty : Ty) (H : List Ch) (T : Nat) (x k e : SV) : Res :=
  match mapAt ty H T x k with
  | some (C, E, mk, n, g, sts, key) => match consts (cellsOf e) with
    | some l => if llen (cellsOf e) = (ty E).sz ∧ isA e = (ty E).agg then .ok True undefS [] [(C, .map mk (mcount n g key) (mset g key l) sts)] else .bad "mapUpdate: size"
    | none => .bad "mapUpdate: value"
  | none => .bad "mapUpdate"
  where isA : SV → Bool
  | .a _ => true
  | _ => false

def opMapEntry (ty : Ty) (H : List Ch) (T : Nat) (x k : SV) : Res :=
  match mapAt ty H T x k with
  | some (C, E, mk, n, g, sts, key) => .ok True (.t [packO (ty E) (g key), .st (hlen H)]) [] [(C, .map mk (mcount n g key) (mset g key (mkeep g key (ty E).z)) ((hlen H, key) :: sts)), (hlen H, .none)]
  | none => .bad "mapEntry"

def stampOf : List (Nat × List Int) → Nat → Option (List Int)
  | [], _ => none
  | (c, k) :: l, d => if c = d then some k else stampOf l d

def opEntryStore (ty : Ty) (H : List Ch) (T : Nat) (x stamp e : SV) : Res :=
  match (ty T).k with
  | .map _ E => match x, stamp, consts (cellsOf e) with
    | .m C, .st d, some l => match hget H C with
      | .map mk n g sts => match stampOf sts d with
        | some key => if opMapUpdate.isA e = mk.va then .ok True undefS [] [(C, .map mk n (mset g key l) sts)] else .bad "entryStore: value"
        | none => .bad "entryStore: stamp"
      | _ => .bad "entryStore: no map"
    | _, _, _ => .bad "entryStore"
  | _ => .bad "entryStore: type"

def opDelete (ty : Ty) (H : List Ch) (T : Nat) (x k : SV) : Res :=
  match mapAt ty H T x k with
  | some (C, _, mk, n, g, _, key) => .ok True (.t []) [] [(C, .map mk (mdcount n g key) (mdel g key) [])]
  | none => .bad "delete"

def opMakeMap (ty : Ty) (H : List Ch) (T : Nat) : Res :=
  match (ty T).k with
  | .map K E => match mkOf ty K E with
    | some mk => .ok True (.m (hlen H)) [] [(hlen H, .map mk 0 (fun _ => none) [])]
    | none => .bad "makeMap: kind"
  | _ => .bad "makeMap"

def opMakeSlice (ty : Ty) (H : List Ch) (T : Nat) : SV → SV → Res
  | .c (.i _ l), .c (.i _ c) => match (ty T).k with
    | .sl e => if (ty e).sz = 0 ∨ (ty e).k.isOther = true then .bad "makeSlice: of nothing" else
        .ok (0 ≤ l ∧ l ≤ c ∧ ((ty e).by_ : Int) * c ≤ 281474976710656 ∧ c ≤ 9223372036854775807) (.sl (hlen H) 0 l.toNat none) [] [(hlen H, .vec e (ty e).sz l.toNat (zeroF (ty e).z))]
    | _ => .bad "makeSlice: type"
  | _, _ => .bad "makeSlice"

def evs (tm : List SV) : List Operand → List SV
  | [] => []
  | x :: l => ev tm x :: evs tm l

def opCall (ty : Ty) (H : List Ch) (tm : List SV) (c : Call) : Res :=
  match c.callee with
  | .builtin b => match b, evs tm c.args.toList, c.argTypes.toList with
    | .len, [x], T :: _ => opLen ty H T x
    | .append, [d, x], [T, S] => match (ty S).k with
      | .sl _ => opAppend ty H T d x
      | .str => opAppend ty H T d x
      | _ => .bad "append: make"
    | .copy, [d, x], T :: _ => opCopy ty H T d x
    | .delete, [x, k], T :: _ => opDelete ty H T x k
    | .min, x :: r, _ => opMinMax false x r
    | .max, x :: r, _ => opMinMax true x r
    | _, _, _ => .bad "call: built-in"
  | .value f => match ev tm f with
    | .fn g caps => .call g (evs tm c.args.toList ++ caps)
    | _ => .bad "call: of what?"
  | _ => .bad "call: invoke"

def opNil : SV → Res
  | .p C o => .ok True (.p C o) [] []
  | .q C i j => .ok True (.q C i j) [] []
  | .pe n g => .ok True (.pe n g) [] []
  | .fn f l => .ok True (.fn f l) [] []
  | _ => .bad "nilCheck"

def opPick (c x y : SV) : Res := match c with
  | .c (.b true) => .ok True x [] []
  | .c (.b false) => .ok True y [] []
  | _ => .bad "pick"

def opExtract (x : SV) (i : Nat) : Res := match x with
  | .t l => match nth l i with
    | some s => .ok True s [] []
    | none => .bad "extract"
  | _ => .bad "extract: of what?"

def opAlloc (i : TI) (H : List Ch) (T : Nat) : Res := match i.k.isOther with
  | true => .bad "alloc: type"
  | false => .ok True (.p (hlen H) 0) [] [(hlen H, .cells T (mapC i.z))]

def opS (ty : Ty) (o : Oper) (tm : List SV) (H : List Ch) : Res :=
  match o.op with
  | .move x => .ok True (ev tm x) [] []
  | .assign x => .ok True (ev tm x) [] []
  | .pick c a b => opPick (ev tm c) (ev tm a) (ev tm b)
  | .alloc T => opAlloc (ty T) H T
  | .box T x => match flat (cellsOf (ev tm x)) with
    | true => .ok True (.p (hlen H) 0) [] [(hlen H, .cells T (cellsOf (ev tm x)))]
    | false => .bad "box"
  | .build T parts => opBuild ty T tm parts.toList
  | .buildSlice T n parts => opBuildSlice ty H T n tm parts.toList
  | .load T x => opLoad (ty T) H (ev tm x)
  | .store T a x => opStore (ty T) H (ev tm a) (ev tm x)
  | .nilCheck x => opNil (ev tm x)
  | .binOp op T x y _ => opBin ty op T (ev tm x) (ev tm y)
  | .unOp op _ x => opUn op (ev tm x)
  | .convert S D x => opConvert ty H S D (ev tm x)
  | .makeFunc (.func f) first caps => if first.isEmpty then .ok True (.fn f (evs tm caps.toList)) [] [] else .bad "makeFunc"
  | .makeMap T none => opMakeMap ty H T
  | .makeSlice T l c => opMakeSlice ty H T (ev tm l) (ev tm c)
  | .slice T x lo hi mx => opSlice ty H T tm x lo hi mx
  | .fieldAddr T x f => opFieldAddr ty T f (ev tm x)
  | .field T x f => opField ty T f (ev tm x)
  | .indexAddr T x i => opIndexAddr ty H T (ev tm x) (ev tm i)
  | .index T x i => opIndex ty T (ev tm x) (ev tm i)
  | .lookup T x i ok => opLookup ty H T (ev tm x) (ev tm i) ok
  | .mapUpdate T m k x => opMapUpdate ty H T (ev tm m) (ev tm k) (ev tm x)
  | .insert T m k x => opMapUpdate ty H T (ev tm m) (ev tm k) (ev tm x)
  | .mapEntry T m k => opMapEntry ty H T (ev tm m) (ev tm k)
  | .entryStore T m s x => opEntryStore ty H T (ev tm m) (ev tm s) (ev tm x)
  | .extract t i => opExtract (ev tm t) i
  | .call c => opCall ty H tm c
  | _ => .bad "operation"

end Go.Proofs.Ytladpdndjcgebaa.Sx
