/- What a state of the symbolic machine means; the machine's run 'go', which says what is left to be shown. -/
import Derived.Test.YtladpdndjcgebaaSxC
namespace Go.Proofs.Ytladpdndjcgebaa.Sx
set_option linter.unusedVariables false
open Go

structure FE where
  P : Program
  ty : Ty
  f : FuncId
  fn : Func
  k0 : Nat
  Post : SV → List Ch → Prop

inductive It where
  | code (c : Code)
  | blk (id : Nat)
  | lp (c : Code)

def It.den : It → Item
  | .code c => .code c
  | .blk id => .inBlock id
  | .lp c => .inLoop c

structure Start where
  ρ : Env
  own : Nat → Nat
  w : World

structure Since (k0 : Nat) (s0 : Start) (ρ : Env) (own : Nat → Nat) (w : World) : Prop where
  loc : ∀ c, c < k0 → ρ c = s0.ρ c
  sub : ∀ k, k < 2 → HL.le (view s0.own k s0.w) (view own k w)
  size : s0.w.heap.size ≤ w.heap.size
  os : w.os = s0.w.os
  tape : w.tape = s0.w.tape
  output : w.output = s0.w.output

/-- What stands when the call has returned. -/
def RetP (k0 : Nat) (Post : SV → List Ch → Prop) (s0 : Start) : Ending → World → Prop := fun e w' =>
  ∃ v r chs ρ' own', e = .returned v ∧ Post r chs ∧ Since k0 s0 ρ' own' w' ∧ (∀ c, hlen chs ≤ c → ρ' c = none) ∧ r.is ρ' (view own' 0 w') v ∧ SatH ρ' own' w' chs

/-- The function is one that the machine enters. -/
def Entered (P : Program) (f : FuncId) : Prop := ∃ fn, P.funcs[f]? = some fn ∧ (fn.name == "runtime.NumGoroutine") = false ∧ fn.body.isNone = false

/-- A CONTRACT: called with these arguments, over these chunks, the function returns, and 'Post' holds of the result and the chunks behind the call. -/
def Spec (P : Program) (f : FuncId) (args : List SV) (pre : List Ch) (Post : SV → List Ch → Prop) : Prop :=
  Entered P f ∧ ∀ ρ own w vs, (∀ c, hlen pre ≤ c → ρ c = none) → SV.isL ρ (view own 0 w) args vs → SatH ρ own w pre → Calls P f vs.toArray w (RetP (hlen pre) Post ⟨ρ, own, w⟩)

def base (f : FuncId) : Frame := { (default : Frame) with fn := f, kind := .normal }

/-- The frame's run from here on ends as R says. -/
def Runs (P : Program) (f : FuncId) (R : Ending → World → Prop) (todo : List Item) (a : Act) (w : World) : Prop :=
  ∀ cs, ∃ e w' fr, R e w' ∧ Comes P (lone ((base f).at a todo) cs w) (lone fr cs w') e ∧ fr.fn = f ∧ fr.leaving P w' e

structure St (E : FE) (s0 : Start) (tm : List SV) (H : List Ch) (ρ : Env) (own : Nat → Nat) (a : Act) (w : World) : Prop where
  since : Since E.k0 s0 ρ own w
  fresh : ∀ c, hlen H ≤ c → ρ c = none
  tmps : SV.isL ρ (view own 0 w) tm a.tmps.toList
  defers : a.defers = []
  sat : SatH ρ own w H
  len : E.k0 ≤ hlen H

structure Stp (news wrs : List Nat) (ρ : Env) (own : Nat → Nat) (w : World) (ρ' : Env) (own' : Nat → Nat) (w' : World) : Prop where
  loc : ∀ c, c ∉ news → ρ' c = ρ c
  sub : ∀ k, (∀ c ∈ wrs, k ≠ c + 3) → HL.le (view own k w) (view own' k w')
  size : w.heap.size ≤ w'.heap.size
  os : w'.os = w.os
  tape : w'.tape = w.tape
  output : w'.output = w.output

def wnames (wr : List (Nat × Ch)) : List Nat := wr.map (·.1)
def newsOf (H : List Ch) (wr : List (Nat × Ch)) : List Nat := (wnames wr).filter fun c => decide (hlen H ≤ c)

/-- One operation does what its record says, whatever else there is. -/
def OpOK (P : Program) (o : Oper) (tm : List SV) (H : List Ch) (s : SV) (rd : List Nat) (wr : List (Nat × Ch)) : Prop :=
  ∀ ρ own w a (K : Act → World → Prop) (Q : Exit → Act → World → Prop),
    (∀ x ∈ o.op.operands, (ev tm x).is ρ (view own 0 w) (a.eval x)) →
    (∀ c, c ∈ rd ∨ c ∈ wnames wr → (hget H c).sat ρ c (view own 0 w) (view own (c + 3) w)) →
    (∀ c ∈ newsOf H wr, ρ c = none) →
    (∀ ρ' own' w' v, Stp (newsOf H wr) (wnames wr) ρ own w ρ' own' w' → s.is ρ' (view own' 0 w') v →
      (∀ x ∈ wr, x.2.sat ρ' x.1 (view own' 0 w') (view own' (x.1 + 3) w')) → K (a.put o.dst v) w') →
    o.wp P a w K Q

structure Rec where
  s : SV
  rd : List Nat
  wr : List (Nat × Ch)
  run : Bool

/-- A region that draws its order, half way: the state at its head, and what its operations did so far, in the order of the text. -/
structure Dr where
  tm0 : List SV
  H0 : List Ch
  done : List Rec

def drPush (d : Option Dr) (r : Rec) : Option Dr := match d with
  | some dr => some { dr with done := dr.done ++ [r] }
  | none => none

def wantS (all : List Oper) (tm : List SV) (o : Oper) : Option Bool := match o.guard with
  | none => some true
  | some (j, t) => match nth all j with
    | some oj => match oj.dst with
      | some d => match lget tm d with
        | .c (.b e) => some (e == t)
        | .t [] => some false
        | _ => none
      | none => none
    | none => none

inductive Md where
  | k
  | o (d : Option Dr) (all l : List Oper)
  | w (t : Option Bool) (x : Oper) (d : Option Dr) (all l : List Oper)
  | x (r : Res) (x : Oper) (d : Option Dr) (all l : List Oper)
  | br (t : Bool) (a b : Code)
  | f (r : Option SV)

def xexit (id : Nat) : List It → Option (List It)
  | [] => none
  | .blk j :: k => if j = id then some k else xexit id k
  | _ :: k => xexit id k

open Classical in
noncomputable def decP (p : Prop) : Bool := decide p
theorem decP_true : decP True = true := by simp [decP]
noncomputable def resS (ty : Ty) (tm : List SV) (H : List Ch) : List ResultVar → Option (List SV)
  | [] => some []
  | .tmp t :: l => match resS ty tm H l with | some r => some (lget tm t :: r) | none => none
  | .cell a T :: l => match opLoad (ty T) H (lget tm a) with
    | .ok p s _ _ => match decP p, resS ty tm H l with | true, some r => some (s :: r) | _, _ => none
    | _ => none
def resW : Option (List SV) → Option SV
  | some [s] => some s
  | some l => some (.t l)
  | none => none

/-- From the state the run goes on to a good end. -/
def RunsFrom (E : FE) (k : List It) (tm : List SV) (H : List Ch) : Prop :=
  ∀ s0 ρ own a w, St E s0 tm H ρ own a w → Runs E.P E.f (RetP E.k0 E.Post s0) (k.map It.den) a w

def exitQ (E : FE) (s0 : Start) (k : List It) : Exit → Act → World → Prop := fun e a w => e = .normal ∧ Runs E.P E.f (RetP E.k0 E.Post s0) (k.map It.den) a w

/-- The records of a region's operations, in the order of the text, and what they come to. -/
inductive DrRun (P : Program) (all : List Oper) : List Oper → List SV → List Ch → List Rec → List Oper → List SV → List Ch → Prop where
  | nil (l tm H) : DrRun P all l tm H [] l tm H
  | step {l0 tm0 H0 done o l tm H s rd wr} : DrRun P all l0 tm0 H0 done (o :: l) tm H → wantS all tm o = some true → OpOK P o tm H s rd wr →
      DrRun P all l0 tm0 H0 (done ++ [⟨s, rd, wr, true⟩]) l (put tm o.dst s) (hsets H wr)
  | skip {l0 tm0 H0 done o l tm H} : DrRun P all l0 tm0 H0 done (o :: l) tm H → wantS all tm o = some false →
      DrRun P all l0 tm0 H0 (done ++ [⟨undefS, [], [], false⟩]) l (put tm o.dst undefS) H

def MO (E : FE) (d : Option Dr) (all l : List Oper) (k : List It) (tm : List SV) (H : List Ch) : Prop := match d with
  | none => ∀ s0 ρ own a w, St E s0 tm H ρ own a w → wpList E.P all.toArray (exitQ E s0 k) l a w
  | some dr => DrRun E.P all all dr.tm0 dr.H0 dr.done l tm H →
      ∀ s0 ρ own a w, St E s0 dr.tm0 dr.H0 ρ own a w → wpAny E.P .any all.toArray (exitQ E s0 k) all.length (Array.replicate all.length false) a w

def FinG (E : FE) (r : SV) (H : List Ch) : Prop :=
  ∀ s0 ρ own w v, Since E.k0 s0 ρ own w → E.k0 ≤ hlen H → (∀ c, hlen H ≤ c → ρ c = none) → r.is ρ (view own 0 w) v → SatH ρ own w H → RetP E.k0 E.Post s0 (.returned v) w

def M (E : FE) (md : Md) (k : List It) (tm : List SV) (H : List Ch) : Prop := match md with
  | .k => RunsFrom E k tm H
  | .o d all l => MO E d all l k tm H
  | .w t o d all l => wantS all tm o = t → MO E d all (o :: l) k tm H
  | .x r o d all l => wantS all tm o = some true → opS E.ty o tm H = r → MO E d all (o :: l) k tm H
  | .br t a b => RunsFrom E (.code (if t then a else b) :: k) tm H
  | .f r => resW (resS E.ty tm H E.fn.results.toList) = r → RunsFrom E [] tm H ∧ ∀ k', RunsFrom E (.code .ret :: k') tm H

/-- A call stands here: go on by the callee's contract. -/
def CallG (E : FE) (f : Nat) (args : List SV) (o : Oper) (d : Option Dr) (all l : List Oper) (k : List It) (tm : List SV) (H : List Ch) : Prop :=
  M E (.x (.call f args) o d all l) k tm H
/-- The head of a loop's round. -/
def LoopG (E : FE) (c : Code) (k : List It) (tm : List SV) (H : List Ch) : Prop := RunsFrom E (.code c :: .lp c :: k) tm H
/-- The machine stands still. -/
def StuckG (_why : String) (E : FE) (md : Md) (k : List It) (tm : List SV) (H : List Ch) : Prop := M E md k tm H

structure FP where
  rd : List Nat
  wr : List Nat
  run : Bool
def fps : List Rec → List FP
  | [] => []
  | r :: l => ⟨r.rd, wnames r.wr, r.run⟩ :: fps l

def clash (x y : FP) : Bool := x.wr.any fun c => y.wr.contains c || y.rd.contains c
/-- What stands ahead of each operation by the edges, as bits; each number is worked out as it is laid. -/
def force {α : Type} (n : Nat) (k : Nat → α) : α := match n with | 0 => k 0 | m + 1 => k (m + 1)
def bef1 (acc : List Nat) (o : Oper) : Nat := o.after.toList.foldl (fun s e => if Region.binds .any e then s ||| 2 ^ e.on ||| acc.getD e.on 0 else s) 0
def befL : List Oper → List Nat → List Nat
  | [], acc => acc
  | o :: l, acc => force (bef1 acc o) fun b => befL l (acc ++ [b])
def edgesOK (ops : List Oper) : Bool := (List.range ops.length).all fun j => match ops[j]? with
  | some o => o.after.toList.all fun e => !Region.binds .any e || decide (e.on < j)
  | none => true
/-- Operations that no edge orders do not meddle with each other. -/
def indepOf (b : List Nat) (ops : List Oper) (fp : List FP) (j i : Nat) : Bool :=
  (b.getD j 0).testBit i ||
    (match fp[i]?, fp[j]?, ops[i]?, ops[j]? with
     | some x, some y, some oi, some oj => !clash x y && !clash y x && Oper.apart ops.toArray oi oj
     | _, _, _, _ => false)
def indepB (b : List Nat) (ops : List Oper) (fp : List FP) : Bool := (List.range ops.length).all fun j => (List.range j).all fun i => indepOf b ops fp j i
def indep (ops : List Oper) (fp : List FP) : Bool := edgesOK ops && indepB (befL ops []) ops fp

def go (E : FE) : Nat → Md → List It → List SV → List Ch → Prop
  | 0, md, k, tm, H => M E md k tm H
  | n + 1, .o d all [], k, tm, H => match d with
    | none => go E n .k k tm H
    | some dr => indep all (fps dr.done) = true ∧ go E n .k k tm H
  | n + 1, .o d all (o :: l), k, tm, H => go E n (.w (wantS all tm o) o d all l) k tm H
  | n + 1, .w t o d all l, k, tm, H => match t with
    | some true => go E n (.x (opS E.ty o tm H) o d all l) k tm H
    | some false => go E n (.o (drPush d ⟨undefS, [], [], false⟩) all l) k (put tm o.dst undefS) H
    | none => StuckG "guard" E (.w none o d all l) k tm H
  | n + 1, .x r o d all l, k, tm, H => match r with
    | .ok p s rd wr => p ∧ go E n (.o (drPush d ⟨s, rd, wr, true⟩) all l) k (put tm o.dst s) (hsets H wr)
    | .call f args => CallG E f args o d all l k tm H
    | .bad why => StuckG why E (.x (.bad why) o d all l) k tm H
  | n + 1, .br t a b, k, tm, H => match t with
    | true => go E n .k (.code a :: k) tm H
    | false => go E n .k (.code b :: k) tm H
  | n + 1, .f r, k, tm, H => match r with
    | some s => FinG E s H
    | none => StuckG "result" E (.f none) k tm H
  | n + 1, .k, [], tm, H => go E n (.f (resW (resS E.ty tm H E.fn.results.toList))) [] tm H
  | n + 1, .k, .blk _ :: k, tm, H => go E n .k k tm H
  | n + 1, .k, .lp c :: k, tm, H => LoopG E c k tm H
  | n + 1, .k, .code c :: k, tm, H => match c with
    | .skip => go E n .k k tm H
    | .seq a b => go E n .k (.code a :: .code b :: k) tm H
    | .block id c => go E n .k (.code c :: .blk id :: k) tm H
    | .loop c => LoopG E c k tm H
    | .exit id => match xexit id k with
      | some k' => go E n .k k' tm H
      | none => StuckG "exit" E .k (.code (.exit id) :: k) tm H
    | .cond c a b => match ev tm c with
      | .c (.b t) => go E n (.br t a b) k tm H
      | _ => StuckG "cond" E .k (.code (.cond c a b) :: k) tm H
    | .ret => go E n (.f (resW (resS E.ty tm H E.fn.results.toList))) k tm H
    | .region _ ops dr => match dr with
      | false => go E n (.o none ops.toList ops.toList) k tm H
      | true => go E n (.o (some ⟨tm, H, []⟩) ops.toList ops.toList) k tm H
    | c => StuckG "code" E .k (.code c :: k) tm H

end Go.Proofs.Ytladpdndjcgebaa.Sx
