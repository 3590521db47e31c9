/- The table of types, held against a program: what it means that the table is the program's own, and a check by computation. -/
import Derived.Test.YtladpdndjcgebaaSxC
namespace Go.Proofs.Ytladpdndjcgebaa.Sx
set_option linter.unusedVariables false
open Go

def TK.fits (P : Program) (T : Nat) : TK → Prop
  | .int k => P.underlying T = some (.int k)
  | .bool => P.underlying T = some .bool
  | .str => P.underlying T = some .string
  | .ptr e => P.underlying T = some (.pointer e)
  | .sl e => P.underlying T = some (.slice e)
  | .arr n e => P.underlying T = some (.array n e)
  | .map k e => P.underlying T = some (.map k e)
  | .fn => ∃ a b c, P.underlying T = some (.func a b c)
  | .st fs => ∃ a : Array Field, P.underlying T = some (.struct a) ∧ a.toList.map (fun f => (f.offset, f.type)) = fs
  | .other => True

def ZeroIs (i : TI) (z : Value) : Prop :=
  (∀ hP, listIs hP i.z z.cells.toList) ∧ z.cells.size = i.sz ∧ (i.agg = true → ∃ cs, z = .agg cs) ∧ (i.agg = false → z.cells = #[z])

/-- Equality of the type's values is that of their cells: ints and bools, arrays and structs of them. -/
def flatOK (P : Program) (ty : Ty) : Nat → Nat → Bool
  | 0, _ => false
  | n + 1, T => match (ty T).k with
    | .int _ => decide ((ty T).sz = 1)
    | .arr m e => flatOK P ty n e && decide ((ty T).sz = m * (ty e).sz)
    | .st fs => !P.stoodInHeld T && (match P.underlying T with
      | some (.struct a) => a.toList.all (fun f => f.name != "_" && flatOK P ty n f.type) && tiles ty fs 0 (ty T).sz
      | _ => false)
    | _ => false
  where tiles (ty : Ty) : List (Nat × Nat) → Nat → Nat → Bool
  | [], at_, sz => decide (at_ = sz)
  | (o, t) :: l, at_, sz => decide (o = at_) && tiles ty l (at_ + (ty t).sz) sz

structure TyAt (P : Program) (ty : Ty) (T : Nat) : Prop where
  info : ∃ i z, P.info? T = some i ∧ i.size = (ty T).sz ∧ i.bytes = (ty T).by_ ∧ i.zero = some z ∧ ZeroIs (ty T) z
  und : TK.fits P T (ty T).k
  flat : (ty T).eq = true → flatOK P ty 8 T = true ∧ P.eqGuardType P.depth T = false

def TyOK (P : Program) (ty : Ty) : Prop := ∀ T, (ty T).k.isOther = false → TyAt P ty T

def pvEq : PV → Value → Bool
  | .i k n, .int k' n' => decide (k = k') && decide (n = n')
  | .b e, .bool e' => e == e'
  | .s l, .string s => l == s.data.toList
  | .v (.pointer none), .pointer none => true
  | .v (.slice none 0 0), .slice none 0 0 => true
  | .v (.map none), .map none => true
  | .v .nilFunc, .nilFunc => true
  | .v .nilIface, .nilIface => true
  | .v (.chan none), .chan none => true
  | _, _ => false
theorem pvEq_is {p : PV} {y : Value} (h : pvEq p y = true) (hP : HL) : p.is hP y := by
  unfold pvEq at h
  split at h
  · simp only [Bool.and_eq_true, decide_eq_true_eq] at h; obtain ⟨rfl, rfl⟩ := h; rfl
  · rw [beq_iff_eq] at h; subst h; rfl
  · rw [beq_iff_eq] at h; subst h; rfl
  all_goals first | exact ⟨rfl, rfl⟩ | (simp at h)
def pvsEq : List PV → List Value → Bool
  | [], [] => true
  | p :: l, y :: r => pvEq p y && pvsEq l r
  | _, _ => false
theorem pvsEq_is (hP : HL) : ∀ {l : List PV} {ys : List Value}, pvsEq l ys = true → listIs hP l ys
  | [], [], _ => rfl
  | p :: l, y :: r, h => by
    simp only [pvsEq, Bool.and_eq_true] at h
    exact ⟨y, r, rfl, pvEq_is h.1 hP, pvsEq_is hP h.2⟩
  | [], _ :: _, h => by simp [pvsEq] at h
  | _ :: _, [], h => by simp [pvsEq] at h

def isAggV : Value → Bool
  | .agg _ => true
  | _ => false
def fieldsEq : List (Nat × Nat) → List Field → Bool
  | [], [] => true
  | (o, t) :: l, f :: r => (decide (f.offset = o) && decide (f.type = t)) && fieldsEq l r
  | _, _ => false
theorem fieldsEq_is : ∀ {l : List (Nat × Nat)} {r : List Field}, fieldsEq l r = true → r.map (fun f => (f.offset, f.type)) = l
  | [], [], _ => rfl
  | (o, t) :: l, f :: r, h => by
    simp only [fieldsEq, Bool.and_eq_true, decide_eq_true_eq] at h
    simp [h.1.1, h.1.2, fieldsEq_is h.2]
  | [], _ :: _, h => by simp [fieldsEq] at h
  | _ :: _, [], h => by simp [fieldsEq] at h
def TK.fitsB (d : TypeDesc) : TK → Bool
  | .int k => match d with | .int k' => decide (k' = k) | _ => false
  | .bool => match d with | .bool => true | _ => false
  | .str => match d with | .string => true | _ => false
  | .ptr e => match d with | .pointer e' => decide (e' = e) | _ => false
  | .sl e => match d with | .slice e' => decide (e' = e) | _ => false
  | .arr n e => match d with | .array n' e' => decide (n' = n) && decide (e' = e) | _ => false
  | .map k e => match d with | .map k' e' => decide (k' = k) && decide (e' = e) | _ => false
  | .fn => match d with | .func _ _ _ => true | _ => false
  | .st fs => match d with | .struct a => fieldsEq fs a.toList | _ => false
  | .other => true
theorem TK.fits_of {P : Program} {T : Nat} {d : TypeDesc} (hd : P.underlying T = some d) : ∀ {k : TK}, k.fitsB d = true → k.fits P T
  | .int k, h => by cases d <;> simp [TK.fitsB] at h; subst h; exact hd
  | .bool, h => by cases d <;> simp [TK.fitsB] at h; exact hd
  | .str, h => by cases d <;> simp [TK.fitsB] at h; exact hd
  | .ptr e, h => by cases d <;> simp [TK.fitsB] at h; subst h; exact hd
  | .sl e, h => by cases d <;> simp [TK.fitsB] at h; subst h; exact hd
  | .arr n e, h => by cases d <;> simp [TK.fitsB] at h; obtain ⟨rfl, rfl⟩ := h; exact hd
  | .map k e, h => by cases d <;> simp [TK.fitsB] at h; obtain ⟨rfl, rfl⟩ := h; exact hd
  | .fn, h => by cases d <;> simp [TK.fitsB] at h; exact ⟨_, _, _, hd⟩
  | .st fs, h => by cases d <;> simp [TK.fitsB] at h; exact ⟨_, hd, fieldsEq_is h⟩
  | .other, _ => trivial
def tyAtB (P : Program) (ty : Ty) (T : Nat) (i : TI) : Bool :=
  i.k.isOther || ((!i.eq || (flatOK P ty 8 T && !P.eqGuardType P.depth T)) && match P.underlying T, P.info? T with
    | some d, some j => i.k.fitsB d && decide (j.size = i.sz) && decide (j.bytes = i.by_) && (match j.zero with
      | some z => pvsEq i.z z.cells.toList && decide (z.cells.size = i.sz) && (isAggV z == i.agg)
      | none => false)
    | _, _ => false)
def tyChk (P : Program) (ty : Ty) (N : Nat) : Bool := (List.range N).all fun T => tyAtB P ty T (ty T)

theorem tyAt_of {P : Program} {ty : Ty} {T : Nat} (h : tyAtB P ty T (ty T) = true) (ho : (ty T).k.isOther = false) : TyAt P ty T := by
  unfold tyAtB at h
  rw [ho, Bool.false_or, Bool.and_eq_true] at h
  obtain ⟨hfl, h⟩ := h
  have hflat : (ty T).eq = true → flatOK P ty 8 T = true ∧ P.eqGuardType P.depth T = false := by
    intro he
    rw [he] at hfl
    simpa using hfl
  split at h
  · rename_i d j hd hj
    simp only [Bool.and_eq_true, decide_eq_true_eq] at h
    obtain ⟨⟨⟨h1, h2⟩, h3⟩, h4⟩ := h
    split at h4
    · rename_i z hz
      simp only [Bool.and_eq_true, decide_eq_true_eq, beq_iff_eq] at h4
      obtain ⟨⟨h5, h6⟩, h7⟩ := h4
      refine ⟨⟨j, z, hj, h2, h3, hz, fun hP => pvsEq_is hP h5, h6, fun ha => ?_, fun ha => ?_⟩, TK.fits_of hd h1, hflat⟩
      · rw [ha] at h7
        cases z <;> simp [isAggV] at h7
        exact ⟨_, rfl⟩
      · rw [ha] at h7
        cases z <;> simp [isAggV] at h7 <;> rfl
    · simp at h4
  · simp at h

theorem tyOK_of {P : Program} {ty : Ty} {N : Nat} (h : tyChk P ty N = true) (hN : ∀ T, N ≤ T → (ty T).k.isOther = true) : TyOK P ty := by
  intro T ho
  refine tyAt_of ?_ ho
  by_cases hT : T < N
  · exact List.all_eq_true.1 h T (List.mem_range.2 hT)
  · rw [hN T (by omega)] at ho
    simp at ho
end Go.Proofs.Ytladpdndjcgebaa.Sx
