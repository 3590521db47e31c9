/- A machine that runs closed code on known values: nodes of eight, and what is read and written at a place. Definitions, and that what is written is read. -/
import Derived.Test.YtladpdndjcgebaaSxY
namespace Go.Proofs.Ytladpdndjcgebaa.Kx
set_option linter.unusedVariables false
open Go Go.Proofs.Ytladpdndjcgebaa.Sx

noncomputable def forceN {α : Type} (n : Nat) (k : Nat → α) : α := Nat.rec (motive := fun _ => α) (k 0) (fun m _ => k (Nat.succ m)) n
noncomputable def ifB {α : Type} (b : Bool) (x y : α) : α := Bool.rec (motive := fun _ => α) y x b
theorem forceN_eq {α : Type} (n : Nat) (k : Nat → α) : forceN n k = k n := by cases n <;> rfl
theorem ifB_eq {α : Type} (b : Bool) (x y : α) : ifB b x y = if b = true then x else y := by cases b <;> rfl

structure N8 (α : Type) where
  c0 : α
  c1 : α
  c2 : α
  c3 : α
  c4 : α
  c5 : α
  c6 : α
  c7 : α
inductive Dg where
  | d0
  | d1
  | d2
  | d3
  | d4
  | d5
  | d6
  | d7
noncomputable def bitB (n : Nat) : Bool := Nat.beq (Nat.mod n 2) 0
/-- The last of a number's digits. -/
noncomputable def dgB (n : Nat) : Dg := ifB (bitB n) (ifB (bitB (Nat.div n 2)) (ifB (bitB (Nat.div n 4)) .d0 .d4) (ifB (bitB (Nat.div n 4)) .d2 .d6)) (ifB (bitB (Nat.div n 2)) (ifB (bitB (Nat.div n 4)) .d1 .d5) (ifB (bitB (Nat.div n 4)) .d3 .d7))
theorem bitB_eq (n : Nat) : bitB n = decide (n % 2 = 0) := by
  show Nat.beq (n % 2) 0 = _
  rcases Nat.mod_two_eq_zero_or_one n with h | h <;> rw [h] <;> rfl
theorem dgB_eq (m n : Nat) : dgB m = dgB n ↔ m % 8 = n % 8 := by
  unfold dgB
  simp only [bitB_eq, ifB_eq, decide_eq_true_eq, show ∀ a b, Nat.div a b = a / b from fun _ _ => rfl]
  constructor
  · intro h
    split at h <;> split at h <;> split at h <;> split at h <;> split at h <;> split at h <;> first | omega | cases h
  · intro h
    have h1 : (m % 2 = 0) = (n % 2 = 0) := by apply propext; omega
    have h2 : (m / 2 % 2 = 0) = (n / 2 % 2 = 0) := by apply propext; omega
    have h3 : (m / 4 % 2 = 0) = (n / 4 % 2 = 0) := by apply propext; omega
    simp only [h1, h2, h3]

inductive CCx (D : Type) where
  | none
  | cells (T n : Nat) (t : D)
  | vs (T sz n : Nat) (t : D)
  | map (k : MK) (n : Nat) (l : List (List Int × List PV)) (st : List (Nat × List Int))
abbrev N1 := N8 SV
abbrev N2 := N8 (N8 SV)
abbrev N3 := N8 (N8 (N8 SV))
abbrev CC := CCx (List N1)
abbrev M1 := N8 CC
abbrev M2 := N8 M1
abbrev M3 := N8 M2
abbrev M4 := N8 M3
abbrev M5 := N8 M4
abbrev M6 := N8 M5
structure CH where
  n : Nat
  t : M6
inductive EX where
  | ret (s : SV) (H : CH)
  | bad (why : String)
  | stop (k : List It) (t : N3) (H : CH)
  | drw (ops : List Oper) (fp : List (Nat × List Nat × List Nat))

noncomputable def s1get (d : Dg) : N8 (SV) → SV := Dg.rec (motive := fun _ => N8 (SV) → SV) (fun t => t.c0) (fun t => t.c1) (fun t => t.c2) (fun t => t.c3) (fun t => t.c4) (fun t => t.c5) (fun t => t.c6) (fun t => t.c7) d
noncomputable def s1set (d : Dg) : SV → N8 (SV) → N8 (SV) := Dg.rec (motive := fun _ => SV → N8 (SV) → N8 (SV)) (fun v t => N8.rec (motive := fun _ => N8 (SV)) (fun _ c1 c2 c3 c4 c5 c6 c7 => ⟨v, c1, c2, c3, c4, c5, c6, c7⟩) t) (fun v t => N8.rec (motive := fun _ => N8 (SV)) (fun c0 _ c2 c3 c4 c5 c6 c7 => ⟨c0, v, c2, c3, c4, c5, c6, c7⟩) t) (fun v t => N8.rec (motive := fun _ => N8 (SV)) (fun c0 c1 _ c3 c4 c5 c6 c7 => ⟨c0, c1, v, c3, c4, c5, c6, c7⟩) t) (fun v t => N8.rec (motive := fun _ => N8 (SV)) (fun c0 c1 c2 _ c4 c5 c6 c7 => ⟨c0, c1, c2, v, c4, c5, c6, c7⟩) t) (fun v t => N8.rec (motive := fun _ => N8 (SV)) (fun c0 c1 c2 c3 _ c5 c6 c7 => ⟨c0, c1, c2, c3, v, c5, c6, c7⟩) t) (fun v t => N8.rec (motive := fun _ => N8 (SV)) (fun c0 c1 c2 c3 c4 _ c6 c7 => ⟨c0, c1, c2, c3, c4, v, c6, c7⟩) t) (fun v t => N8.rec (motive := fun _ => N8 (SV)) (fun c0 c1 c2 c3 c4 c5 _ c7 => ⟨c0, c1, c2, c3, c4, c5, v, c7⟩) t) (fun v t => N8.rec (motive := fun _ => N8 (SV)) (fun c0 c1 c2 c3 c4 c5 c6 _ => ⟨c0, c1, c2, c3, c4, c5, c6, v⟩) t) d
theorem s1get_same (d : Dg) (v : SV) (t : N8 (SV)) : s1get d (s1set d v t) = v := by cases t; cases d <;> rfl
theorem s1get_other {d e : Dg} (h : e ≠ d) (v : SV) (t : N8 (SV)) : s1get e (s1set d v t) = s1get e t := by cases t; cases d <;> cases e <;> first | rfl | exact (h rfl).elim
noncomputable def s1getK (d : Dg) : N8 (SV) → (SV → EX) → EX := Dg.rec (motive := fun _ => N8 (SV) → (SV → EX) → EX) (fun t k => N8.rec (motive := fun _ => EX) (fun c0 _ _ _ _ _ _ _ => k c0) t) (fun t k => N8.rec (motive := fun _ => EX) (fun _ c1 _ _ _ _ _ _ => k c1) t) (fun t k => N8.rec (motive := fun _ => EX) (fun _ _ c2 _ _ _ _ _ => k c2) t) (fun t k => N8.rec (motive := fun _ => EX) (fun _ _ _ c3 _ _ _ _ => k c3) t) (fun t k => N8.rec (motive := fun _ => EX) (fun _ _ _ _ c4 _ _ _ => k c4) t) (fun t k => N8.rec (motive := fun _ => EX) (fun _ _ _ _ _ c5 _ _ => k c5) t) (fun t k => N8.rec (motive := fun _ => EX) (fun _ _ _ _ _ _ c6 _ => k c6) t) (fun t k => N8.rec (motive := fun _ => EX) (fun _ _ _ _ _ _ _ c7 => k c7) t) d
noncomputable def s1setK (d : Dg) : SV → N8 (SV) → (N8 (SV) → EX) → EX := Dg.rec (motive := fun _ => SV → N8 (SV) → (N8 (SV) → EX) → EX) (fun v t k => N8.rec (motive := fun _ => EX) (fun _ c1 c2 c3 c4 c5 c6 c7 => k ⟨v, c1, c2, c3, c4, c5, c6, c7⟩) t) (fun v t k => N8.rec (motive := fun _ => EX) (fun c0 _ c2 c3 c4 c5 c6 c7 => k ⟨c0, v, c2, c3, c4, c5, c6, c7⟩) t) (fun v t k => N8.rec (motive := fun _ => EX) (fun c0 c1 _ c3 c4 c5 c6 c7 => k ⟨c0, c1, v, c3, c4, c5, c6, c7⟩) t) (fun v t k => N8.rec (motive := fun _ => EX) (fun c0 c1 c2 _ c4 c5 c6 c7 => k ⟨c0, c1, c2, v, c4, c5, c6, c7⟩) t) (fun v t k => N8.rec (motive := fun _ => EX) (fun c0 c1 c2 c3 _ c5 c6 c7 => k ⟨c0, c1, c2, c3, v, c5, c6, c7⟩) t) (fun v t k => N8.rec (motive := fun _ => EX) (fun c0 c1 c2 c3 c4 _ c6 c7 => k ⟨c0, c1, c2, c3, c4, v, c6, c7⟩) t) (fun v t k => N8.rec (motive := fun _ => EX) (fun c0 c1 c2 c3 c4 c5 _ c7 => k ⟨c0, c1, c2, c3, c4, c5, v, c7⟩) t) (fun v t k => N8.rec (motive := fun _ => EX) (fun c0 c1 c2 c3 c4 c5 c6 _ => k ⟨c0, c1, c2, c3, c4, c5, c6, v⟩) t) d
theorem s1getK_eq (d : Dg) (t : N8 (SV)) (k : SV → EX) : s1getK d t k = k (s1get d t) := by cases t; cases d <;> rfl
theorem s1setK_eq (d : Dg) (v : SV) (t : N8 (SV)) (k : N8 (SV) → EX) : s1setK d v t k = k (s1set d v t) := by cases t; cases d <;> rfl
noncomputable def s2get (d : Dg) : N8 (N1) → N1 := Dg.rec (motive := fun _ => N8 (N1) → N1) (fun t => t.c0) (fun t => t.c1) (fun t => t.c2) (fun t => t.c3) (fun t => t.c4) (fun t => t.c5) (fun t => t.c6) (fun t => t.c7) d
noncomputable def s2set (d : Dg) : N1 → N8 (N1) → N8 (N1) := Dg.rec (motive := fun _ => N1 → N8 (N1) → N8 (N1)) (fun v t => N8.rec (motive := fun _ => N8 (N1)) (fun _ c1 c2 c3 c4 c5 c6 c7 => ⟨v, c1, c2, c3, c4, c5, c6, c7⟩) t) (fun v t => N8.rec (motive := fun _ => N8 (N1)) (fun c0 _ c2 c3 c4 c5 c6 c7 => ⟨c0, v, c2, c3, c4, c5, c6, c7⟩) t) (fun v t => N8.rec (motive := fun _ => N8 (N1)) (fun c0 c1 _ c3 c4 c5 c6 c7 => ⟨c0, c1, v, c3, c4, c5, c6, c7⟩) t) (fun v t => N8.rec (motive := fun _ => N8 (N1)) (fun c0 c1 c2 _ c4 c5 c6 c7 => ⟨c0, c1, c2, v, c4, c5, c6, c7⟩) t) (fun v t => N8.rec (motive := fun _ => N8 (N1)) (fun c0 c1 c2 c3 _ c5 c6 c7 => ⟨c0, c1, c2, c3, v, c5, c6, c7⟩) t) (fun v t => N8.rec (motive := fun _ => N8 (N1)) (fun c0 c1 c2 c3 c4 _ c6 c7 => ⟨c0, c1, c2, c3, c4, v, c6, c7⟩) t) (fun v t => N8.rec (motive := fun _ => N8 (N1)) (fun c0 c1 c2 c3 c4 c5 _ c7 => ⟨c0, c1, c2, c3, c4, c5, v, c7⟩) t) (fun v t => N8.rec (motive := fun _ => N8 (N1)) (fun c0 c1 c2 c3 c4 c5 c6 _ => ⟨c0, c1, c2, c3, c4, c5, c6, v⟩) t) d
theorem s2get_same (d : Dg) (v : N1) (t : N8 (N1)) : s2get d (s2set d v t) = v := by cases t; cases d <;> rfl
theorem s2get_other {d e : Dg} (h : e ≠ d) (v : N1) (t : N8 (N1)) : s2get e (s2set d v t) = s2get e t := by cases t; cases d <;> cases e <;> first | rfl | exact (h rfl).elim
noncomputable def s2getK (d : Dg) : N8 (N1) → (N1 → EX) → EX := Dg.rec (motive := fun _ => N8 (N1) → (N1 → EX) → EX) (fun t k => N8.rec (motive := fun _ => EX) (fun c0 _ _ _ _ _ _ _ => k c0) t) (fun t k => N8.rec (motive := fun _ => EX) (fun _ c1 _ _ _ _ _ _ => k c1) t) (fun t k => N8.rec (motive := fun _ => EX) (fun _ _ c2 _ _ _ _ _ => k c2) t) (fun t k => N8.rec (motive := fun _ => EX) (fun _ _ _ c3 _ _ _ _ => k c3) t) (fun t k => N8.rec (motive := fun _ => EX) (fun _ _ _ _ c4 _ _ _ => k c4) t) (fun t k => N8.rec (motive := fun _ => EX) (fun _ _ _ _ _ c5 _ _ => k c5) t) (fun t k => N8.rec (motive := fun _ => EX) (fun _ _ _ _ _ _ c6 _ => k c6) t) (fun t k => N8.rec (motive := fun _ => EX) (fun _ _ _ _ _ _ _ c7 => k c7) t) d
noncomputable def s2setK (d : Dg) : N1 → N8 (N1) → (N8 (N1) → EX) → EX := Dg.rec (motive := fun _ => N1 → N8 (N1) → (N8 (N1) → EX) → EX) (fun v t k => N8.rec (motive := fun _ => EX) (fun _ c1 c2 c3 c4 c5 c6 c7 => k ⟨v, c1, c2, c3, c4, c5, c6, c7⟩) t) (fun v t k => N8.rec (motive := fun _ => EX) (fun c0 _ c2 c3 c4 c5 c6 c7 => k ⟨c0, v, c2, c3, c4, c5, c6, c7⟩) t) (fun v t k => N8.rec (motive := fun _ => EX) (fun c0 c1 _ c3 c4 c5 c6 c7 => k ⟨c0, c1, v, c3, c4, c5, c6, c7⟩) t) (fun v t k => N8.rec (motive := fun _ => EX) (fun c0 c1 c2 _ c4 c5 c6 c7 => k ⟨c0, c1, c2, v, c4, c5, c6, c7⟩) t) (fun v t k => N8.rec (motive := fun _ => EX) (fun c0 c1 c2 c3 _ c5 c6 c7 => k ⟨c0, c1, c2, c3, v, c5, c6, c7⟩) t) (fun v t k => N8.rec (motive := fun _ => EX) (fun c0 c1 c2 c3 c4 _ c6 c7 => k ⟨c0, c1, c2, c3, c4, v, c6, c7⟩) t) (fun v t k => N8.rec (motive := fun _ => EX) (fun c0 c1 c2 c3 c4 c5 _ c7 => k ⟨c0, c1, c2, c3, c4, c5, v, c7⟩) t) (fun v t k => N8.rec (motive := fun _ => EX) (fun c0 c1 c2 c3 c4 c5 c6 _ => k ⟨c0, c1, c2, c3, c4, c5, c6, v⟩) t) d
theorem s2getK_eq (d : Dg) (t : N8 (N1)) (k : N1 → EX) : s2getK d t k = k (s2get d t) := by cases t; cases d <;> rfl
theorem s2setK_eq (d : Dg) (v : N1) (t : N8 (N1)) (k : N8 (N1) → EX) : s2setK d v t k = k (s2set d v t) := by cases t; cases d <;> rfl
noncomputable def s3get (d : Dg) : N8 (N2) → N2 := Dg.rec (motive := fun _ => N8 (N2) → N2) (fun t => t.c0) (fun t => t.c1) (fun t => t.c2) (fun t => t.c3) (fun t => t.c4) (fun t => t.c5) (fun t => t.c6) (fun t => t.c7) d
noncomputable def s3set (d : Dg) : N2 → N8 (N2) → N8 (N2) := Dg.rec (motive := fun _ => N2 → N8 (N2) → N8 (N2)) (fun v t => N8.rec (motive := fun _ => N8 (N2)) (fun _ c1 c2 c3 c4 c5 c6 c7 => ⟨v, c1, c2, c3, c4, c5, c6, c7⟩) t) (fun v t => N8.rec (motive := fun _ => N8 (N2)) (fun c0 _ c2 c3 c4 c5 c6 c7 => ⟨c0, v, c2, c3, c4, c5, c6, c7⟩) t) (fun v t => N8.rec (motive := fun _ => N8 (N2)) (fun c0 c1 _ c3 c4 c5 c6 c7 => ⟨c0, c1, v, c3, c4, c5, c6, c7⟩) t) (fun v t => N8.rec (motive := fun _ => N8 (N2)) (fun c0 c1 c2 _ c4 c5 c6 c7 => ⟨c0, c1, c2, v, c4, c5, c6, c7⟩) t) (fun v t => N8.rec (motive := fun _ => N8 (N2)) (fun c0 c1 c2 c3 _ c5 c6 c7 => ⟨c0, c1, c2, c3, v, c5, c6, c7⟩) t) (fun v t => N8.rec (motive := fun _ => N8 (N2)) (fun c0 c1 c2 c3 c4 _ c6 c7 => ⟨c0, c1, c2, c3, c4, v, c6, c7⟩) t) (fun v t => N8.rec (motive := fun _ => N8 (N2)) (fun c0 c1 c2 c3 c4 c5 _ c7 => ⟨c0, c1, c2, c3, c4, c5, v, c7⟩) t) (fun v t => N8.rec (motive := fun _ => N8 (N2)) (fun c0 c1 c2 c3 c4 c5 c6 _ => ⟨c0, c1, c2, c3, c4, c5, c6, v⟩) t) d
theorem s3get_same (d : Dg) (v : N2) (t : N8 (N2)) : s3get d (s3set d v t) = v := by cases t; cases d <;> rfl
theorem s3get_other {d e : Dg} (h : e ≠ d) (v : N2) (t : N8 (N2)) : s3get e (s3set d v t) = s3get e t := by cases t; cases d <;> cases e <;> first | rfl | exact (h rfl).elim
noncomputable def s3getK (d : Dg) : N8 (N2) → (N2 → EX) → EX := Dg.rec (motive := fun _ => N8 (N2) → (N2 → EX) → EX) (fun t k => N8.rec (motive := fun _ => EX) (fun c0 _ _ _ _ _ _ _ => k c0) t) (fun t k => N8.rec (motive := fun _ => EX) (fun _ c1 _ _ _ _ _ _ => k c1) t) (fun t k => N8.rec (motive := fun _ => EX) (fun _ _ c2 _ _ _ _ _ => k c2) t) (fun t k => N8.rec (motive := fun _ => EX) (fun _ _ _ c3 _ _ _ _ => k c3) t) (fun t k => N8.rec (motive := fun _ => EX) (fun _ _ _ _ c4 _ _ _ => k c4) t) (fun t k => N8.rec (motive := fun _ => EX) (fun _ _ _ _ _ c5 _ _ => k c5) t) (fun t k => N8.rec (motive := fun _ => EX) (fun _ _ _ _ _ _ c6 _ => k c6) t) (fun t k => N8.rec (motive := fun _ => EX) (fun _ _ _ _ _ _ _ c7 => k c7) t) d
noncomputable def s3setK (d : Dg) : N2 → N8 (N2) → (N8 (N2) → EX) → EX := Dg.rec (motive := fun _ => N2 → N8 (N2) → (N8 (N2) → EX) → EX) (fun v t k => N8.rec (motive := fun _ => EX) (fun _ c1 c2 c3 c4 c5 c6 c7 => k ⟨v, c1, c2, c3, c4, c5, c6, c7⟩) t) (fun v t k => N8.rec (motive := fun _ => EX) (fun c0 _ c2 c3 c4 c5 c6 c7 => k ⟨c0, v, c2, c3, c4, c5, c6, c7⟩) t) (fun v t k => N8.rec (motive := fun _ => EX) (fun c0 c1 _ c3 c4 c5 c6 c7 => k ⟨c0, c1, v, c3, c4, c5, c6, c7⟩) t) (fun v t k => N8.rec (motive := fun _ => EX) (fun c0 c1 c2 _ c4 c5 c6 c7 => k ⟨c0, c1, c2, v, c4, c5, c6, c7⟩) t) (fun v t k => N8.rec (motive := fun _ => EX) (fun c0 c1 c2 c3 _ c5 c6 c7 => k ⟨c0, c1, c2, c3, v, c5, c6, c7⟩) t) (fun v t k => N8.rec (motive := fun _ => EX) (fun c0 c1 c2 c3 c4 _ c6 c7 => k ⟨c0, c1, c2, c3, c4, v, c6, c7⟩) t) (fun v t k => N8.rec (motive := fun _ => EX) (fun c0 c1 c2 c3 c4 c5 _ c7 => k ⟨c0, c1, c2, c3, c4, c5, v, c7⟩) t) (fun v t k => N8.rec (motive := fun _ => EX) (fun c0 c1 c2 c3 c4 c5 c6 _ => k ⟨c0, c1, c2, c3, c4, c5, c6, v⟩) t) d
theorem s3getK_eq (d : Dg) (t : N8 (N2)) (k : N2 → EX) : s3getK d t k = k (s3get d t) := by cases t; cases d <;> rfl
theorem s3setK_eq (d : Dg) (v : N2) (t : N8 (N2)) (k : N8 (N2) → EX) : s3setK d v t k = k (s3set d v t) := by cases t; cases d <;> rfl

/-! ### the slots of a frame -/
def u1 : N1 := ⟨undefS, undefS, undefS, undefS, undefS, undefS, undefS, undefS⟩
def u2 : N2 := ⟨u1, u1, u1, u1, u1, u1, u1, u1⟩
def u3 : N3 := ⟨u2, u2, u2, u2, u2, u2, u2, u2⟩
noncomputable def tget (k : Nat) (t : N3) : SV := s1get (dgB k) (s2get (dgB (Nat.div k 8)) (s3get (dgB (Nat.div k 64)) t))
noncomputable def tset (k : Nat) (v : SV) (t : N3) : N3 := s3set (dgB (Nat.div k 64)) (s2set (dgB (Nat.div k 8)) (s1set (dgB k) v (s2get (dgB (Nat.div k 8)) (s3get (dgB (Nat.div k 64)) t))) (s3get (dgB (Nat.div k 64)) t)) t
noncomputable def tgetD (a b c : Dg) (t : N3) (K : SV → EX) : EX := s3getK c t fun t => s2getK b t fun t => s1getK a t K
noncomputable def tsetD (a b c : Dg) (v : SV) (t : N3) (K : N3 → EX) : EX := s3getK c t fun t2 => s2getK b t2 fun t1 => s1setK a v t1 fun t1 => s2setK b t1 t2 fun t2 => s3setK c t2 t K
noncomputable def tgetK (k : Nat) (t : N3) (K : SV → EX) : EX := tgetD (dgB k) (dgB (Nat.div k 8)) (dgB (Nat.div k 64)) t K
noncomputable def tsetK (k : Nat) (v : SV) (t : N3) (K : N3 → EX) : EX := tsetD (dgB k) (dgB (Nat.div k 8)) (dgB (Nat.div k 64)) v t K
theorem tgetK_eq (k : Nat) (t : N3) (K : SV → EX) : tgetK k t K = K (tget k t) := by simp only [tgetK, tgetD, tget, s1getK_eq, s2getK_eq, s3getK_eq]
theorem tsetK_eq (k : Nat) (v : SV) (t : N3) (K : N3 → EX) : tsetK k v t K = K (tset k v t) := by simp only [tsetK, tsetD, tset, s1getK_eq, s2getK_eq, s3getK_eq, s1setK_eq, s2setK_eq, s3setK_eq]
theorem tget_tset {i k : Nat} (hi : i < 512) (hk : k < 512) (v : SV) (t : N3) : tget i (tset k v t) = if i = k then v else tget i t := by
  unfold tget tset
  by_cases h3 : dgB (Nat.div i 64) = dgB (Nat.div k 64)
  · rw [h3, s3get_same]
    by_cases h2 : dgB (Nat.div i 8) = dgB (Nat.div k 8)
    · rw [h2, s2get_same]
      by_cases h1 : dgB i = dgB k
      · rw [h1, s1get_same, if_pos]
        have e3 := (dgB_eq _ _).1 h3
        have e2 := (dgB_eq _ _).1 h2
        have e1 := (dgB_eq _ _).1 h1
        simp only [show ∀ a b, Nat.div a b = a / b from fun _ _ => rfl] at e2 e3
        omega
      · rw [s1get_other h1, if_neg (fun e => h1 (by rw [e]))]
    · rw [s2get_other h2, if_neg (fun e => h2 (by rw [e]))]
  · rw [s3get_other h3, if_neg (fun e => h3 (by rw [e]))]
theorem tget_u3 (i : Nat) : tget i u3 = undefS := by
  unfold tget
  generalize dgB i = a; generalize dgB (Nat.div i 8) = b; generalize dgB (Nat.div i 64) = c
  cases a <;> cases b <;> cases c <;> rfl

/-! ### the same, ready for a slot that is known -/
structure BP2 where
  f : N2 → N1
structure BP3 where
  f : N3 → N2
structure BG where
  f : N1 → (SV → EX) → EX
structure BU1 where
  f : SV → N1 → (N1 → EX) → EX
structure BU2 where
  f : (N1 → (N1 → EX) → EX) → N2 → (N2 → EX) → EX
structure BU3 where
  f : (N2 → (N2 → EX) → EX) → N3 → (N3 → EX) → EX
noncomputable def bp2 (d : Dg) : BP2 := Dg.rec (motive := fun _ => BP2) ⟨fun t => t.c0⟩ ⟨fun t => t.c1⟩ ⟨fun t => t.c2⟩ ⟨fun t => t.c3⟩ ⟨fun t => t.c4⟩ ⟨fun t => t.c5⟩ ⟨fun t => t.c6⟩ ⟨fun t => t.c7⟩ d
noncomputable def bp3 (d : Dg) : BP3 := Dg.rec (motive := fun _ => BP3) ⟨fun t => t.c0⟩ ⟨fun t => t.c1⟩ ⟨fun t => t.c2⟩ ⟨fun t => t.c3⟩ ⟨fun t => t.c4⟩ ⟨fun t => t.c5⟩ ⟨fun t => t.c6⟩ ⟨fun t => t.c7⟩ d
noncomputable def bg (d : Dg) : BG := Dg.rec (motive := fun _ => BG) ⟨fun t k => N8.rec (motive := fun _ => EX) (fun c0 _ _ _ _ _ _ _ => k c0) t⟩ ⟨fun t k => N8.rec (motive := fun _ => EX) (fun _ c1 _ _ _ _ _ _ => k c1) t⟩ ⟨fun t k => N8.rec (motive := fun _ => EX) (fun _ _ c2 _ _ _ _ _ => k c2) t⟩ ⟨fun t k => N8.rec (motive := fun _ => EX) (fun _ _ _ c3 _ _ _ _ => k c3) t⟩ ⟨fun t k => N8.rec (motive := fun _ => EX) (fun _ _ _ _ c4 _ _ _ => k c4) t⟩ ⟨fun t k => N8.rec (motive := fun _ => EX) (fun _ _ _ _ _ c5 _ _ => k c5) t⟩ ⟨fun t k => N8.rec (motive := fun _ => EX) (fun _ _ _ _ _ _ c6 _ => k c6) t⟩ ⟨fun t k => N8.rec (motive := fun _ => EX) (fun _ _ _ _ _ _ _ c7 => k c7) t⟩ d
noncomputable def bu1 (d : Dg) : BU1 := Dg.rec (motive := fun _ => BU1) ⟨fun v t k => N8.rec (motive := fun _ => EX) (fun _ c1 c2 c3 c4 c5 c6 c7 => k ⟨v, c1, c2, c3, c4, c5, c6, c7⟩) t⟩ ⟨fun v t k => N8.rec (motive := fun _ => EX) (fun c0 _ c2 c3 c4 c5 c6 c7 => k ⟨c0, v, c2, c3, c4, c5, c6, c7⟩) t⟩ ⟨fun v t k => N8.rec (motive := fun _ => EX) (fun c0 c1 _ c3 c4 c5 c6 c7 => k ⟨c0, c1, v, c3, c4, c5, c6, c7⟩) t⟩ ⟨fun v t k => N8.rec (motive := fun _ => EX) (fun c0 c1 c2 _ c4 c5 c6 c7 => k ⟨c0, c1, c2, v, c4, c5, c6, c7⟩) t⟩ ⟨fun v t k => N8.rec (motive := fun _ => EX) (fun c0 c1 c2 c3 _ c5 c6 c7 => k ⟨c0, c1, c2, c3, v, c5, c6, c7⟩) t⟩ ⟨fun v t k => N8.rec (motive := fun _ => EX) (fun c0 c1 c2 c3 c4 _ c6 c7 => k ⟨c0, c1, c2, c3, c4, v, c6, c7⟩) t⟩ ⟨fun v t k => N8.rec (motive := fun _ => EX) (fun c0 c1 c2 c3 c4 c5 _ c7 => k ⟨c0, c1, c2, c3, c4, c5, v, c7⟩) t⟩ ⟨fun v t k => N8.rec (motive := fun _ => EX) (fun c0 c1 c2 c3 c4 c5 c6 _ => k ⟨c0, c1, c2, c3, c4, c5, c6, v⟩) t⟩ d
noncomputable def bu2 (d : Dg) : BU2 := Dg.rec (motive := fun _ => BU2) ⟨fun F t k => N8.rec (motive := fun _ => EX) (fun c0 c1 c2 c3 c4 c5 c6 c7 => F c0 fun x => k ⟨x, c1, c2, c3, c4, c5, c6, c7⟩) t⟩ ⟨fun F t k => N8.rec (motive := fun _ => EX) (fun c0 c1 c2 c3 c4 c5 c6 c7 => F c1 fun x => k ⟨c0, x, c2, c3, c4, c5, c6, c7⟩) t⟩ ⟨fun F t k => N8.rec (motive := fun _ => EX) (fun c0 c1 c2 c3 c4 c5 c6 c7 => F c2 fun x => k ⟨c0, c1, x, c3, c4, c5, c6, c7⟩) t⟩ ⟨fun F t k => N8.rec (motive := fun _ => EX) (fun c0 c1 c2 c3 c4 c5 c6 c7 => F c3 fun x => k ⟨c0, c1, c2, x, c4, c5, c6, c7⟩) t⟩ ⟨fun F t k => N8.rec (motive := fun _ => EX) (fun c0 c1 c2 c3 c4 c5 c6 c7 => F c4 fun x => k ⟨c0, c1, c2, c3, x, c5, c6, c7⟩) t⟩ ⟨fun F t k => N8.rec (motive := fun _ => EX) (fun c0 c1 c2 c3 c4 c5 c6 c7 => F c5 fun x => k ⟨c0, c1, c2, c3, c4, x, c6, c7⟩) t⟩ ⟨fun F t k => N8.rec (motive := fun _ => EX) (fun c0 c1 c2 c3 c4 c5 c6 c7 => F c6 fun x => k ⟨c0, c1, c2, c3, c4, c5, x, c7⟩) t⟩ ⟨fun F t k => N8.rec (motive := fun _ => EX) (fun c0 c1 c2 c3 c4 c5 c6 c7 => F c7 fun x => k ⟨c0, c1, c2, c3, c4, c5, c6, x⟩) t⟩ d
noncomputable def bu3 (d : Dg) : BU3 := Dg.rec (motive := fun _ => BU3) ⟨fun F t k => N8.rec (motive := fun _ => EX) (fun c0 c1 c2 c3 c4 c5 c6 c7 => F c0 fun x => k ⟨x, c1, c2, c3, c4, c5, c6, c7⟩) t⟩ ⟨fun F t k => N8.rec (motive := fun _ => EX) (fun c0 c1 c2 c3 c4 c5 c6 c7 => F c1 fun x => k ⟨c0, x, c2, c3, c4, c5, c6, c7⟩) t⟩ ⟨fun F t k => N8.rec (motive := fun _ => EX) (fun c0 c1 c2 c3 c4 c5 c6 c7 => F c2 fun x => k ⟨c0, c1, x, c3, c4, c5, c6, c7⟩) t⟩ ⟨fun F t k => N8.rec (motive := fun _ => EX) (fun c0 c1 c2 c3 c4 c5 c6 c7 => F c3 fun x => k ⟨c0, c1, c2, x, c4, c5, c6, c7⟩) t⟩ ⟨fun F t k => N8.rec (motive := fun _ => EX) (fun c0 c1 c2 c3 c4 c5 c6 c7 => F c4 fun x => k ⟨c0, c1, c2, c3, x, c5, c6, c7⟩) t⟩ ⟨fun F t k => N8.rec (motive := fun _ => EX) (fun c0 c1 c2 c3 c4 c5 c6 c7 => F c5 fun x => k ⟨c0, c1, c2, c3, c4, x, c6, c7⟩) t⟩ ⟨fun F t k => N8.rec (motive := fun _ => EX) (fun c0 c1 c2 c3 c4 c5 c6 c7 => F c6 fun x => k ⟨c0, c1, c2, c3, c4, c5, x, c7⟩) t⟩ ⟨fun F t k => N8.rec (motive := fun _ => EX) (fun c0 c1 c2 c3 c4 c5 c6 c7 => F c7 fun x => k ⟨c0, c1, c2, c3, c4, c5, c6, x⟩) t⟩ d
theorem bp2_eq (d : Dg) (t : N2) : (bp2 d).f t = s2get d t := by cases d <;> rfl
theorem bp3_eq (d : Dg) (t : N3) : (bp3 d).f t = s3get d t := by cases d <;> rfl
theorem bg_eq (d : Dg) (t : N1) (k : SV → EX) : (bg d).f t k = k (s1get d t) := by cases t; cases d <;> rfl
theorem bu1_eq (d : Dg) (v : SV) (t : N1) (k : N1 → EX) : (bu1 d).f v t k = k (s1set d v t) := by cases t; cases d <;> rfl
theorem bu2_eq (d : Dg) (F : N1 → (N1 → EX) → EX) (f : N1 → N1) (hF : ∀ t k, F t k = k (f t)) (t : N2) (k : N2 → EX) : (bu2 d).f F t k = k (s2set d (f (s2get d t)) t) := by
  cases t; cases d <;> exact hF _ _
theorem bu3_eq (d : Dg) (F : N2 → (N2 → EX) → EX) (f : N2 → N2) (hF : ∀ t k, F t k = k (f t)) (t : N3) (k : N3 → EX) : (bu3 d).f F t k = k (s3set d (f (s3get d t)) t) := by
  cases t; cases d <;> exact hF _ _
structure GB where
  g : N3 → (SV → EX) → EX
structure SB where
  g : SV → N3 → (N3 → EX) → EX
noncomputable def slotG (a b c : Dg) : GB := BP3.rec (motive := fun _ => GB) (fun p => BP2.rec (motive := fun _ => GB) (fun q => BG.rec (motive := fun _ => GB) (fun g => ⟨fun t K => g (q (p t)) K⟩) (bg a)) (bp2 b)) (bp3 c)
noncomputable def slotS (a b c : Dg) : SB := BU3.rec (motive := fun _ => SB) (fun u3 => BU2.rec (motive := fun _ => SB) (fun u2 => BU1.rec (motive := fun _ => SB) (fun u1 => ⟨fun v t K => u3 (u2 (u1 v)) t K⟩) (bu1 a)) (bu2 b)) (bu3 c)
noncomputable def tgetB (k : Nat) : GB := slotG (dgB k) (dgB (Nat.div k 8)) (dgB (Nat.div k 64))
noncomputable def tsetB (k : Nat) : SB := slotS (dgB k) (dgB (Nat.div k 8)) (dgB (Nat.div k 64))
theorem tgetB_eq (k : Nat) (t : N3) (K : SV → EX) : (tgetB k).g t K = K (tget k t) := by
  unfold tgetB tget
  generalize dgB k = a; generalize dgB (Nat.div k 8) = b; generalize dgB (Nat.div k 64) = c
  show (bg a).f ((bp2 b).f ((bp3 c).f t)) K = _
  rw [bg_eq, bp2_eq, bp3_eq]
theorem tsetB_eq (k : Nat) (v : SV) (t : N3) (K : N3 → EX) : (tsetB k).g v t K = K (tset k v t) := by
  unfold tsetB tset
  generalize dgB k = a; generalize dgB (Nat.div k 8) = b; generalize dgB (Nat.div k 64) = c
  show (bu3 c).f ((bu2 b).f ((bu1 a).f v)) t K = _
  rw [bu3_eq c _ (fun t => s2set b (s1set a v (s2get b t)) t) (fun t k => bu2_eq b _ (fun t => s1set a v t) (fun t k => bu1_eq a v t k) t k)]

/-! ### rows of cells -/
abbrev D := List N1
noncomputable def bget (q : Nat) : D → N1 := Nat.rec (motive := fun _ => D → N1) (fun l => List.rec (motive := fun _ => N1) u1 (fun b _ _ => b) l) (fun _ ih l => List.rec (motive := fun _ => N1) u1 (fun _ r _ => ih r) l) q
noncomputable def bset (v : N1) (q : Nat) : D → D := Nat.rec (motive := fun _ => D → D) (fun l => List.rec (motive := fun _ => D) [v] (fun _ r _ => v :: r) l) (fun _ ih l => List.rec (motive := fun _ => D) (u1 :: ih []) (fun b r _ => b :: ih r) l) q
theorem bget_nil : ∀ q, bget q [] = u1
  | 0 => rfl
  | q + 1 => rfl
theorem bget_bset (v : N1) : ∀ (q p : Nat) (l : D), bget p (bset v q l) = if p = q then v else bget p l
  | 0, 0, [] => rfl
  | 0, 0, _ :: _ => rfl
  | 0, p + 1, [] => by rw [if_neg (by omega), bget_nil]; exact bget_nil p
  | 0, p + 1, _ :: _ => by rw [if_neg (by omega)]; rfl
  | q + 1, 0, [] => by rw [if_neg (by omega)]; rfl
  | q + 1, 0, _ :: _ => by rw [if_neg (by omega)]; rfl
  | q + 1, p + 1, [] => by
    show bget p (bset v q []) = _
    rw [bget_bset v q p [], bget_nil]
    simp only [Nat.add_right_cancel_iff]
    rfl
  | q + 1, p + 1, _ :: r => by
    show bget p (bset v q r) = _
    rw [bget_bset v q p r]
    simp only [Nat.add_right_cancel_iff]
    rfl
noncomputable def bgetK (q : Nat) : D → (N1 → EX) → EX := Nat.rec (motive := fun _ => D → (N1 → EX) → EX) (fun l k => List.rec (motive := fun _ => EX) (k u1) (fun b _ _ => k b) l) (fun _ ih l k => List.rec (motive := fun _ => EX) (k u1) (fun _ r _ => ih r k) l) q
noncomputable def bsetK (v : N1) (q : Nat) : D → (D → EX) → EX := Nat.rec (motive := fun _ => D → (D → EX) → EX) (fun l k => List.rec (motive := fun _ => EX) (k [v]) (fun _ r _ => k (v :: r)) l) (fun _ ih l k => List.rec (motive := fun _ => EX) (ih [] fun r => k (u1 :: r)) (fun b r _ => ih r fun r => k (b :: r)) l) q
theorem bgetK_eq : ∀ (q : Nat) (l : D) (k : N1 → EX), bgetK q l k = k (bget q l)
  | 0, [], _ => rfl
  | 0, _ :: _, _ => rfl
  | q + 1, [], _ => rfl
  | q + 1, _ :: r, k => bgetK_eq q r k
theorem bsetK_eq (v : N1) : ∀ (q : Nat) (l : D) (k : D → EX), bsetK v q l k = k (bset v q l)
  | 0, [], _ => rfl
  | 0, _ :: _, _ => rfl
  | q + 1, [], k => bsetK_eq v q [] fun r => k (u1 :: r)
  | q + 1, b :: r, k => bsetK_eq v q r fun r => k (b :: r)
noncomputable def dget (k : Nat) (l : D) : SV := s1get (dgB k) (bget (Nat.div k 8) l)
noncomputable def dset (k : Nat) (v : SV) (l : D) : D := bset (s1set (dgB k) v (bget (Nat.div k 8) l)) (Nat.div k 8) l
noncomputable def dgetK (k : Nat) (l : D) (K : SV → EX) : EX := bgetK (Nat.div k 8) l fun b => s1getK (dgB k) b K
noncomputable def dsetK (k : Nat) (v : SV) (l : D) (K : D → EX) : EX := bgetK (Nat.div k 8) l fun b => s1setK (dgB k) v b fun b => bsetK b (Nat.div k 8) l K
theorem dgetK_eq (k : Nat) (l : D) (K : SV → EX) : dgetK k l K = K (dget k l) := by simp only [dgetK, dget, bgetK_eq, s1getK_eq]
theorem dsetK_eq (k : Nat) (v : SV) (l : D) (K : D → EX) : dsetK k v l K = K (dset k v l) := by simp only [dsetK, dset, bgetK_eq, s1setK_eq, bsetK_eq]
theorem dget_dset (i k : Nat) (v : SV) (l : D) : dget i (dset k v l) = if i = k then v else dget i l := by
  unfold dget dset
  rw [bget_bset]
  by_cases h2 : Nat.div i 8 = Nat.div k 8
  · rw [if_pos h2]
    by_cases h1 : dgB i = dgB k
    · rw [h1, s1get_same, if_pos]
      have e1 := (dgB_eq _ _).1 h1
      simp only [show ∀ a b, Nat.div a b = a / b from fun _ _ => rfl] at h2
      omega
    · rw [s1get_other h1, if_neg (fun e => h1 (by rw [e])), h2]
  · rw [if_neg h2, if_neg (fun e => h2 (by rw [e]))]

noncomputable def h1get (d : Dg) : N8 (CC) → CC := Dg.rec (motive := fun _ => N8 (CC) → CC) (fun t => t.c0) (fun t => t.c1) (fun t => t.c2) (fun t => t.c3) (fun t => t.c4) (fun t => t.c5) (fun t => t.c6) (fun t => t.c7) d
noncomputable def h1set (d : Dg) : CC → N8 (CC) → N8 (CC) := Dg.rec (motive := fun _ => CC → N8 (CC) → N8 (CC)) (fun v t => N8.rec (motive := fun _ => N8 (CC)) (fun _ c1 c2 c3 c4 c5 c6 c7 => ⟨v, c1, c2, c3, c4, c5, c6, c7⟩) t) (fun v t => N8.rec (motive := fun _ => N8 (CC)) (fun c0 _ c2 c3 c4 c5 c6 c7 => ⟨c0, v, c2, c3, c4, c5, c6, c7⟩) t) (fun v t => N8.rec (motive := fun _ => N8 (CC)) (fun c0 c1 _ c3 c4 c5 c6 c7 => ⟨c0, c1, v, c3, c4, c5, c6, c7⟩) t) (fun v t => N8.rec (motive := fun _ => N8 (CC)) (fun c0 c1 c2 _ c4 c5 c6 c7 => ⟨c0, c1, c2, v, c4, c5, c6, c7⟩) t) (fun v t => N8.rec (motive := fun _ => N8 (CC)) (fun c0 c1 c2 c3 _ c5 c6 c7 => ⟨c0, c1, c2, c3, v, c5, c6, c7⟩) t) (fun v t => N8.rec (motive := fun _ => N8 (CC)) (fun c0 c1 c2 c3 c4 _ c6 c7 => ⟨c0, c1, c2, c3, c4, v, c6, c7⟩) t) (fun v t => N8.rec (motive := fun _ => N8 (CC)) (fun c0 c1 c2 c3 c4 c5 _ c7 => ⟨c0, c1, c2, c3, c4, c5, v, c7⟩) t) (fun v t => N8.rec (motive := fun _ => N8 (CC)) (fun c0 c1 c2 c3 c4 c5 c6 _ => ⟨c0, c1, c2, c3, c4, c5, c6, v⟩) t) d
theorem h1get_same (d : Dg) (v : CC) (t : N8 (CC)) : h1get d (h1set d v t) = v := by cases t; cases d <;> rfl
theorem h1get_other {d e : Dg} (h : e ≠ d) (v : CC) (t : N8 (CC)) : h1get e (h1set d v t) = h1get e t := by cases t; cases d <;> cases e <;> first | rfl | exact (h rfl).elim
noncomputable def h1getK (d : Dg) : N8 (CC) → (CC → EX) → EX := Dg.rec (motive := fun _ => N8 (CC) → (CC → EX) → EX) (fun t k => N8.rec (motive := fun _ => EX) (fun c0 _ _ _ _ _ _ _ => k c0) t) (fun t k => N8.rec (motive := fun _ => EX) (fun _ c1 _ _ _ _ _ _ => k c1) t) (fun t k => N8.rec (motive := fun _ => EX) (fun _ _ c2 _ _ _ _ _ => k c2) t) (fun t k => N8.rec (motive := fun _ => EX) (fun _ _ _ c3 _ _ _ _ => k c3) t) (fun t k => N8.rec (motive := fun _ => EX) (fun _ _ _ _ c4 _ _ _ => k c4) t) (fun t k => N8.rec (motive := fun _ => EX) (fun _ _ _ _ _ c5 _ _ => k c5) t) (fun t k => N8.rec (motive := fun _ => EX) (fun _ _ _ _ _ _ c6 _ => k c6) t) (fun t k => N8.rec (motive := fun _ => EX) (fun _ _ _ _ _ _ _ c7 => k c7) t) d
noncomputable def h1setK (d : Dg) : CC → N8 (CC) → (N8 (CC) → EX) → EX := Dg.rec (motive := fun _ => CC → N8 (CC) → (N8 (CC) → EX) → EX) (fun v t k => N8.rec (motive := fun _ => EX) (fun _ c1 c2 c3 c4 c5 c6 c7 => k ⟨v, c1, c2, c3, c4, c5, c6, c7⟩) t) (fun v t k => N8.rec (motive := fun _ => EX) (fun c0 _ c2 c3 c4 c5 c6 c7 => k ⟨c0, v, c2, c3, c4, c5, c6, c7⟩) t) (fun v t k => N8.rec (motive := fun _ => EX) (fun c0 c1 _ c3 c4 c5 c6 c7 => k ⟨c0, c1, v, c3, c4, c5, c6, c7⟩) t) (fun v t k => N8.rec (motive := fun _ => EX) (fun c0 c1 c2 _ c4 c5 c6 c7 => k ⟨c0, c1, c2, v, c4, c5, c6, c7⟩) t) (fun v t k => N8.rec (motive := fun _ => EX) (fun c0 c1 c2 c3 _ c5 c6 c7 => k ⟨c0, c1, c2, c3, v, c5, c6, c7⟩) t) (fun v t k => N8.rec (motive := fun _ => EX) (fun c0 c1 c2 c3 c4 _ c6 c7 => k ⟨c0, c1, c2, c3, c4, v, c6, c7⟩) t) (fun v t k => N8.rec (motive := fun _ => EX) (fun c0 c1 c2 c3 c4 c5 _ c7 => k ⟨c0, c1, c2, c3, c4, c5, v, c7⟩) t) (fun v t k => N8.rec (motive := fun _ => EX) (fun c0 c1 c2 c3 c4 c5 c6 _ => k ⟨c0, c1, c2, c3, c4, c5, c6, v⟩) t) d
theorem h1getK_eq (d : Dg) (t : N8 (CC)) (k : CC → EX) : h1getK d t k = k (h1get d t) := by cases t; cases d <;> rfl
theorem h1setK_eq (d : Dg) (v : CC) (t : N8 (CC)) (k : N8 (CC) → EX) : h1setK d v t k = k (h1set d v t) := by cases t; cases d <;> rfl
noncomputable def h2get (d : Dg) : N8 (M1) → M1 := Dg.rec (motive := fun _ => N8 (M1) → M1) (fun t => t.c0) (fun t => t.c1) (fun t => t.c2) (fun t => t.c3) (fun t => t.c4) (fun t => t.c5) (fun t => t.c6) (fun t => t.c7) d
noncomputable def h2set (d : Dg) : M1 → N8 (M1) → N8 (M1) := Dg.rec (motive := fun _ => M1 → N8 (M1) → N8 (M1)) (fun v t => N8.rec (motive := fun _ => N8 (M1)) (fun _ c1 c2 c3 c4 c5 c6 c7 => ⟨v, c1, c2, c3, c4, c5, c6, c7⟩) t) (fun v t => N8.rec (motive := fun _ => N8 (M1)) (fun c0 _ c2 c3 c4 c5 c6 c7 => ⟨c0, v, c2, c3, c4, c5, c6, c7⟩) t) (fun v t => N8.rec (motive := fun _ => N8 (M1)) (fun c0 c1 _ c3 c4 c5 c6 c7 => ⟨c0, c1, v, c3, c4, c5, c6, c7⟩) t) (fun v t => N8.rec (motive := fun _ => N8 (M1)) (fun c0 c1 c2 _ c4 c5 c6 c7 => ⟨c0, c1, c2, v, c4, c5, c6, c7⟩) t) (fun v t => N8.rec (motive := fun _ => N8 (M1)) (fun c0 c1 c2 c3 _ c5 c6 c7 => ⟨c0, c1, c2, c3, v, c5, c6, c7⟩) t) (fun v t => N8.rec (motive := fun _ => N8 (M1)) (fun c0 c1 c2 c3 c4 _ c6 c7 => ⟨c0, c1, c2, c3, c4, v, c6, c7⟩) t) (fun v t => N8.rec (motive := fun _ => N8 (M1)) (fun c0 c1 c2 c3 c4 c5 _ c7 => ⟨c0, c1, c2, c3, c4, c5, v, c7⟩) t) (fun v t => N8.rec (motive := fun _ => N8 (M1)) (fun c0 c1 c2 c3 c4 c5 c6 _ => ⟨c0, c1, c2, c3, c4, c5, c6, v⟩) t) d
theorem h2get_same (d : Dg) (v : M1) (t : N8 (M1)) : h2get d (h2set d v t) = v := by cases t; cases d <;> rfl
theorem h2get_other {d e : Dg} (h : e ≠ d) (v : M1) (t : N8 (M1)) : h2get e (h2set d v t) = h2get e t := by cases t; cases d <;> cases e <;> first | rfl | exact (h rfl).elim
noncomputable def h2getK (d : Dg) : N8 (M1) → (M1 → EX) → EX := Dg.rec (motive := fun _ => N8 (M1) → (M1 → EX) → EX) (fun t k => N8.rec (motive := fun _ => EX) (fun c0 _ _ _ _ _ _ _ => k c0) t) (fun t k => N8.rec (motive := fun _ => EX) (fun _ c1 _ _ _ _ _ _ => k c1) t) (fun t k => N8.rec (motive := fun _ => EX) (fun _ _ c2 _ _ _ _ _ => k c2) t) (fun t k => N8.rec (motive := fun _ => EX) (fun _ _ _ c3 _ _ _ _ => k c3) t) (fun t k => N8.rec (motive := fun _ => EX) (fun _ _ _ _ c4 _ _ _ => k c4) t) (fun t k => N8.rec (motive := fun _ => EX) (fun _ _ _ _ _ c5 _ _ => k c5) t) (fun t k => N8.rec (motive := fun _ => EX) (fun _ _ _ _ _ _ c6 _ => k c6) t) (fun t k => N8.rec (motive := fun _ => EX) (fun _ _ _ _ _ _ _ c7 => k c7) t) d
noncomputable def h2setK (d : Dg) : M1 → N8 (M1) → (N8 (M1) → EX) → EX := Dg.rec (motive := fun _ => M1 → N8 (M1) → (N8 (M1) → EX) → EX) (fun v t k => N8.rec (motive := fun _ => EX) (fun _ c1 c2 c3 c4 c5 c6 c7 => k ⟨v, c1, c2, c3, c4, c5, c6, c7⟩) t) (fun v t k => N8.rec (motive := fun _ => EX) (fun c0 _ c2 c3 c4 c5 c6 c7 => k ⟨c0, v, c2, c3, c4, c5, c6, c7⟩) t) (fun v t k => N8.rec (motive := fun _ => EX) (fun c0 c1 _ c3 c4 c5 c6 c7 => k ⟨c0, c1, v, c3, c4, c5, c6, c7⟩) t) (fun v t k => N8.rec (motive := fun _ => EX) (fun c0 c1 c2 _ c4 c5 c6 c7 => k ⟨c0, c1, c2, v, c4, c5, c6, c7⟩) t) (fun v t k => N8.rec (motive := fun _ => EX) (fun c0 c1 c2 c3 _ c5 c6 c7 => k ⟨c0, c1, c2, c3, v, c5, c6, c7⟩) t) (fun v t k => N8.rec (motive := fun _ => EX) (fun c0 c1 c2 c3 c4 _ c6 c7 => k ⟨c0, c1, c2, c3, c4, v, c6, c7⟩) t) (fun v t k => N8.rec (motive := fun _ => EX) (fun c0 c1 c2 c3 c4 c5 _ c7 => k ⟨c0, c1, c2, c3, c4, c5, v, c7⟩) t) (fun v t k => N8.rec (motive := fun _ => EX) (fun c0 c1 c2 c3 c4 c5 c6 _ => k ⟨c0, c1, c2, c3, c4, c5, c6, v⟩) t) d
theorem h2getK_eq (d : Dg) (t : N8 (M1)) (k : M1 → EX) : h2getK d t k = k (h2get d t) := by cases t; cases d <;> rfl
theorem h2setK_eq (d : Dg) (v : M1) (t : N8 (M1)) (k : N8 (M1) → EX) : h2setK d v t k = k (h2set d v t) := by cases t; cases d <;> rfl
noncomputable def h3get (d : Dg) : N8 (M2) → M2 := Dg.rec (motive := fun _ => N8 (M2) → M2) (fun t => t.c0) (fun t => t.c1) (fun t => t.c2) (fun t => t.c3) (fun t => t.c4) (fun t => t.c5) (fun t => t.c6) (fun t => t.c7) d
noncomputable def h3set (d : Dg) : M2 → N8 (M2) → N8 (M2) := Dg.rec (motive := fun _ => M2 → N8 (M2) → N8 (M2)) (fun v t => N8.rec (motive := fun _ => N8 (M2)) (fun _ c1 c2 c3 c4 c5 c6 c7 => ⟨v, c1, c2, c3, c4, c5, c6, c7⟩) t) (fun v t => N8.rec (motive := fun _ => N8 (M2)) (fun c0 _ c2 c3 c4 c5 c6 c7 => ⟨c0, v, c2, c3, c4, c5, c6, c7⟩) t) (fun v t => N8.rec (motive := fun _ => N8 (M2)) (fun c0 c1 _ c3 c4 c5 c6 c7 => ⟨c0, c1, v, c3, c4, c5, c6, c7⟩) t) (fun v t => N8.rec (motive := fun _ => N8 (M2)) (fun c0 c1 c2 _ c4 c5 c6 c7 => ⟨c0, c1, c2, v, c4, c5, c6, c7⟩) t) (fun v t => N8.rec (motive := fun _ => N8 (M2)) (fun c0 c1 c2 c3 _ c5 c6 c7 => ⟨c0, c1, c2, c3, v, c5, c6, c7⟩) t) (fun v t => N8.rec (motive := fun _ => N8 (M2)) (fun c0 c1 c2 c3 c4 _ c6 c7 => ⟨c0, c1, c2, c3, c4, v, c6, c7⟩) t) (fun v t => N8.rec (motive := fun _ => N8 (M2)) (fun c0 c1 c2 c3 c4 c5 _ c7 => ⟨c0, c1, c2, c3, c4, c5, v, c7⟩) t) (fun v t => N8.rec (motive := fun _ => N8 (M2)) (fun c0 c1 c2 c3 c4 c5 c6 _ => ⟨c0, c1, c2, c3, c4, c5, c6, v⟩) t) d
theorem h3get_same (d : Dg) (v : M2) (t : N8 (M2)) : h3get d (h3set d v t) = v := by cases t; cases d <;> rfl
theorem h3get_other {d e : Dg} (h : e ≠ d) (v : M2) (t : N8 (M2)) : h3get e (h3set d v t) = h3get e t := by cases t; cases d <;> cases e <;> first | rfl | exact (h rfl).elim
noncomputable def h3getK (d : Dg) : N8 (M2) → (M2 → EX) → EX := Dg.rec (motive := fun _ => N8 (M2) → (M2 → EX) → EX) (fun t k => N8.rec (motive := fun _ => EX) (fun c0 _ _ _ _ _ _ _ => k c0) t) (fun t k => N8.rec (motive := fun _ => EX) (fun _ c1 _ _ _ _ _ _ => k c1) t) (fun t k => N8.rec (motive := fun _ => EX) (fun _ _ c2 _ _ _ _ _ => k c2) t) (fun t k => N8.rec (motive := fun _ => EX) (fun _ _ _ c3 _ _ _ _ => k c3) t) (fun t k => N8.rec (motive := fun _ => EX) (fun _ _ _ _ c4 _ _ _ => k c4) t) (fun t k => N8.rec (motive := fun _ => EX) (fun _ _ _ _ _ c5 _ _ => k c5) t) (fun t k => N8.rec (motive := fun _ => EX) (fun _ _ _ _ _ _ c6 _ => k c6) t) (fun t k => N8.rec (motive := fun _ => EX) (fun _ _ _ _ _ _ _ c7 => k c7) t) d
noncomputable def h3setK (d : Dg) : M2 → N8 (M2) → (N8 (M2) → EX) → EX := Dg.rec (motive := fun _ => M2 → N8 (M2) → (N8 (M2) → EX) → EX) (fun v t k => N8.rec (motive := fun _ => EX) (fun _ c1 c2 c3 c4 c5 c6 c7 => k ⟨v, c1, c2, c3, c4, c5, c6, c7⟩) t) (fun v t k => N8.rec (motive := fun _ => EX) (fun c0 _ c2 c3 c4 c5 c6 c7 => k ⟨c0, v, c2, c3, c4, c5, c6, c7⟩) t) (fun v t k => N8.rec (motive := fun _ => EX) (fun c0 c1 _ c3 c4 c5 c6 c7 => k ⟨c0, c1, v, c3, c4, c5, c6, c7⟩) t) (fun v t k => N8.rec (motive := fun _ => EX) (fun c0 c1 c2 _ c4 c5 c6 c7 => k ⟨c0, c1, c2, v, c4, c5, c6, c7⟩) t) (fun v t k => N8.rec (motive := fun _ => EX) (fun c0 c1 c2 c3 _ c5 c6 c7 => k ⟨c0, c1, c2, c3, v, c5, c6, c7⟩) t) (fun v t k => N8.rec (motive := fun _ => EX) (fun c0 c1 c2 c3 c4 _ c6 c7 => k ⟨c0, c1, c2, c3, c4, v, c6, c7⟩) t) (fun v t k => N8.rec (motive := fun _ => EX) (fun c0 c1 c2 c3 c4 c5 _ c7 => k ⟨c0, c1, c2, c3, c4, c5, v, c7⟩) t) (fun v t k => N8.rec (motive := fun _ => EX) (fun c0 c1 c2 c3 c4 c5 c6 _ => k ⟨c0, c1, c2, c3, c4, c5, c6, v⟩) t) d
theorem h3getK_eq (d : Dg) (t : N8 (M2)) (k : M2 → EX) : h3getK d t k = k (h3get d t) := by cases t; cases d <;> rfl
theorem h3setK_eq (d : Dg) (v : M2) (t : N8 (M2)) (k : N8 (M2) → EX) : h3setK d v t k = k (h3set d v t) := by cases t; cases d <;> rfl
noncomputable def h4get (d : Dg) : N8 (M3) → M3 := Dg.rec (motive := fun _ => N8 (M3) → M3) (fun t => t.c0) (fun t => t.c1) (fun t => t.c2) (fun t => t.c3) (fun t => t.c4) (fun t => t.c5) (fun t => t.c6) (fun t => t.c7) d
noncomputable def h4set (d : Dg) : M3 → N8 (M3) → N8 (M3) := Dg.rec (motive := fun _ => M3 → N8 (M3) → N8 (M3)) (fun v t => N8.rec (motive := fun _ => N8 (M3)) (fun _ c1 c2 c3 c4 c5 c6 c7 => ⟨v, c1, c2, c3, c4, c5, c6, c7⟩) t) (fun v t => N8.rec (motive := fun _ => N8 (M3)) (fun c0 _ c2 c3 c4 c5 c6 c7 => ⟨c0, v, c2, c3, c4, c5, c6, c7⟩) t) (fun v t => N8.rec (motive := fun _ => N8 (M3)) (fun c0 c1 _ c3 c4 c5 c6 c7 => ⟨c0, c1, v, c3, c4, c5, c6, c7⟩) t) (fun v t => N8.rec (motive := fun _ => N8 (M3)) (fun c0 c1 c2 _ c4 c5 c6 c7 => ⟨c0, c1, c2, v, c4, c5, c6, c7⟩) t) (fun v t => N8.rec (motive := fun _ => N8 (M3)) (fun c0 c1 c2 c3 _ c5 c6 c7 => ⟨c0, c1, c2, c3, v, c5, c6, c7⟩) t) (fun v t => N8.rec (motive := fun _ => N8 (M3)) (fun c0 c1 c2 c3 c4 _ c6 c7 => ⟨c0, c1, c2, c3, c4, v, c6, c7⟩) t) (fun v t => N8.rec (motive := fun _ => N8 (M3)) (fun c0 c1 c2 c3 c4 c5 _ c7 => ⟨c0, c1, c2, c3, c4, c5, v, c7⟩) t) (fun v t => N8.rec (motive := fun _ => N8 (M3)) (fun c0 c1 c2 c3 c4 c5 c6 _ => ⟨c0, c1, c2, c3, c4, c5, c6, v⟩) t) d
theorem h4get_same (d : Dg) (v : M3) (t : N8 (M3)) : h4get d (h4set d v t) = v := by cases t; cases d <;> rfl
theorem h4get_other {d e : Dg} (h : e ≠ d) (v : M3) (t : N8 (M3)) : h4get e (h4set d v t) = h4get e t := by cases t; cases d <;> cases e <;> first | rfl | exact (h rfl).elim
noncomputable def h4getK (d : Dg) : N8 (M3) → (M3 → EX) → EX := Dg.rec (motive := fun _ => N8 (M3) → (M3 → EX) → EX) (fun t k => N8.rec (motive := fun _ => EX) (fun c0 _ _ _ _ _ _ _ => k c0) t) (fun t k => N8.rec (motive := fun _ => EX) (fun _ c1 _ _ _ _ _ _ => k c1) t) (fun t k => N8.rec (motive := fun _ => EX) (fun _ _ c2 _ _ _ _ _ => k c2) t) (fun t k => N8.rec (motive := fun _ => EX) (fun _ _ _ c3 _ _ _ _ => k c3) t) (fun t k => N8.rec (motive := fun _ => EX) (fun _ _ _ _ c4 _ _ _ => k c4) t) (fun t k => N8.rec (motive := fun _ => EX) (fun _ _ _ _ _ c5 _ _ => k c5) t) (fun t k => N8.rec (motive := fun _ => EX) (fun _ _ _ _ _ _ c6 _ => k c6) t) (fun t k => N8.rec (motive := fun _ => EX) (fun _ _ _ _ _ _ _ c7 => k c7) t) d
noncomputable def h4setK (d : Dg) : M3 → N8 (M3) → (N8 (M3) → EX) → EX := Dg.rec (motive := fun _ => M3 → N8 (M3) → (N8 (M3) → EX) → EX) (fun v t k => N8.rec (motive := fun _ => EX) (fun _ c1 c2 c3 c4 c5 c6 c7 => k ⟨v, c1, c2, c3, c4, c5, c6, c7⟩) t) (fun v t k => N8.rec (motive := fun _ => EX) (fun c0 _ c2 c3 c4 c5 c6 c7 => k ⟨c0, v, c2, c3, c4, c5, c6, c7⟩) t) (fun v t k => N8.rec (motive := fun _ => EX) (fun c0 c1 _ c3 c4 c5 c6 c7 => k ⟨c0, c1, v, c3, c4, c5, c6, c7⟩) t) (fun v t k => N8.rec (motive := fun _ => EX) (fun c0 c1 c2 _ c4 c5 c6 c7 => k ⟨c0, c1, c2, v, c4, c5, c6, c7⟩) t) (fun v t k => N8.rec (motive := fun _ => EX) (fun c0 c1 c2 c3 _ c5 c6 c7 => k ⟨c0, c1, c2, c3, v, c5, c6, c7⟩) t) (fun v t k => N8.rec (motive := fun _ => EX) (fun c0 c1 c2 c3 c4 _ c6 c7 => k ⟨c0, c1, c2, c3, c4, v, c6, c7⟩) t) (fun v t k => N8.rec (motive := fun _ => EX) (fun c0 c1 c2 c3 c4 c5 _ c7 => k ⟨c0, c1, c2, c3, c4, c5, v, c7⟩) t) (fun v t k => N8.rec (motive := fun _ => EX) (fun c0 c1 c2 c3 c4 c5 c6 _ => k ⟨c0, c1, c2, c3, c4, c5, c6, v⟩) t) d
theorem h4getK_eq (d : Dg) (t : N8 (M3)) (k : M3 → EX) : h4getK d t k = k (h4get d t) := by cases t; cases d <;> rfl
theorem h4setK_eq (d : Dg) (v : M3) (t : N8 (M3)) (k : N8 (M3) → EX) : h4setK d v t k = k (h4set d v t) := by cases t; cases d <;> rfl
noncomputable def h5get (d : Dg) : N8 (M4) → M4 := Dg.rec (motive := fun _ => N8 (M4) → M4) (fun t => t.c0) (fun t => t.c1) (fun t => t.c2) (fun t => t.c3) (fun t => t.c4) (fun t => t.c5) (fun t => t.c6) (fun t => t.c7) d
noncomputable def h5set (d : Dg) : M4 → N8 (M4) → N8 (M4) := Dg.rec (motive := fun _ => M4 → N8 (M4) → N8 (M4)) (fun v t => N8.rec (motive := fun _ => N8 (M4)) (fun _ c1 c2 c3 c4 c5 c6 c7 => ⟨v, c1, c2, c3, c4, c5, c6, c7⟩) t) (fun v t => N8.rec (motive := fun _ => N8 (M4)) (fun c0 _ c2 c3 c4 c5 c6 c7 => ⟨c0, v, c2, c3, c4, c5, c6, c7⟩) t) (fun v t => N8.rec (motive := fun _ => N8 (M4)) (fun c0 c1 _ c3 c4 c5 c6 c7 => ⟨c0, c1, v, c3, c4, c5, c6, c7⟩) t) (fun v t => N8.rec (motive := fun _ => N8 (M4)) (fun c0 c1 c2 _ c4 c5 c6 c7 => ⟨c0, c1, c2, v, c4, c5, c6, c7⟩) t) (fun v t => N8.rec (motive := fun _ => N8 (M4)) (fun c0 c1 c2 c3 _ c5 c6 c7 => ⟨c0, c1, c2, c3, v, c5, c6, c7⟩) t) (fun v t => N8.rec (motive := fun _ => N8 (M4)) (fun c0 c1 c2 c3 c4 _ c6 c7 => ⟨c0, c1, c2, c3, c4, v, c6, c7⟩) t) (fun v t => N8.rec (motive := fun _ => N8 (M4)) (fun c0 c1 c2 c3 c4 c5 _ c7 => ⟨c0, c1, c2, c3, c4, c5, v, c7⟩) t) (fun v t => N8.rec (motive := fun _ => N8 (M4)) (fun c0 c1 c2 c3 c4 c5 c6 _ => ⟨c0, c1, c2, c3, c4, c5, c6, v⟩) t) d
theorem h5get_same (d : Dg) (v : M4) (t : N8 (M4)) : h5get d (h5set d v t) = v := by cases t; cases d <;> rfl
theorem h5get_other {d e : Dg} (h : e ≠ d) (v : M4) (t : N8 (M4)) : h5get e (h5set d v t) = h5get e t := by cases t; cases d <;> cases e <;> first | rfl | exact (h rfl).elim
noncomputable def h5getK (d : Dg) : N8 (M4) → (M4 → EX) → EX := Dg.rec (motive := fun _ => N8 (M4) → (M4 → EX) → EX) (fun t k => N8.rec (motive := fun _ => EX) (fun c0 _ _ _ _ _ _ _ => k c0) t) (fun t k => N8.rec (motive := fun _ => EX) (fun _ c1 _ _ _ _ _ _ => k c1) t) (fun t k => N8.rec (motive := fun _ => EX) (fun _ _ c2 _ _ _ _ _ => k c2) t) (fun t k => N8.rec (motive := fun _ => EX) (fun _ _ _ c3 _ _ _ _ => k c3) t) (fun t k => N8.rec (motive := fun _ => EX) (fun _ _ _ _ c4 _ _ _ => k c4) t) (fun t k => N8.rec (motive := fun _ => EX) (fun _ _ _ _ _ c5 _ _ => k c5) t) (fun t k => N8.rec (motive := fun _ => EX) (fun _ _ _ _ _ _ c6 _ => k c6) t) (fun t k => N8.rec (motive := fun _ => EX) (fun _ _ _ _ _ _ _ c7 => k c7) t) d
noncomputable def h5setK (d : Dg) : M4 → N8 (M4) → (N8 (M4) → EX) → EX := Dg.rec (motive := fun _ => M4 → N8 (M4) → (N8 (M4) → EX) → EX) (fun v t k => N8.rec (motive := fun _ => EX) (fun _ c1 c2 c3 c4 c5 c6 c7 => k ⟨v, c1, c2, c3, c4, c5, c6, c7⟩) t) (fun v t k => N8.rec (motive := fun _ => EX) (fun c0 _ c2 c3 c4 c5 c6 c7 => k ⟨c0, v, c2, c3, c4, c5, c6, c7⟩) t) (fun v t k => N8.rec (motive := fun _ => EX) (fun c0 c1 _ c3 c4 c5 c6 c7 => k ⟨c0, c1, v, c3, c4, c5, c6, c7⟩) t) (fun v t k => N8.rec (motive := fun _ => EX) (fun c0 c1 c2 _ c4 c5 c6 c7 => k ⟨c0, c1, c2, v, c4, c5, c6, c7⟩) t) (fun v t k => N8.rec (motive := fun _ => EX) (fun c0 c1 c2 c3 _ c5 c6 c7 => k ⟨c0, c1, c2, c3, v, c5, c6, c7⟩) t) (fun v t k => N8.rec (motive := fun _ => EX) (fun c0 c1 c2 c3 c4 _ c6 c7 => k ⟨c0, c1, c2, c3, c4, v, c6, c7⟩) t) (fun v t k => N8.rec (motive := fun _ => EX) (fun c0 c1 c2 c3 c4 c5 _ c7 => k ⟨c0, c1, c2, c3, c4, c5, v, c7⟩) t) (fun v t k => N8.rec (motive := fun _ => EX) (fun c0 c1 c2 c3 c4 c5 c6 _ => k ⟨c0, c1, c2, c3, c4, c5, c6, v⟩) t) d
theorem h5getK_eq (d : Dg) (t : N8 (M4)) (k : M4 → EX) : h5getK d t k = k (h5get d t) := by cases t; cases d <;> rfl
theorem h5setK_eq (d : Dg) (v : M4) (t : N8 (M4)) (k : N8 (M4) → EX) : h5setK d v t k = k (h5set d v t) := by cases t; cases d <;> rfl
noncomputable def h6get (d : Dg) : N8 (M5) → M5 := Dg.rec (motive := fun _ => N8 (M5) → M5) (fun t => t.c0) (fun t => t.c1) (fun t => t.c2) (fun t => t.c3) (fun t => t.c4) (fun t => t.c5) (fun t => t.c6) (fun t => t.c7) d
noncomputable def h6set (d : Dg) : M5 → N8 (M5) → N8 (M5) := Dg.rec (motive := fun _ => M5 → N8 (M5) → N8 (M5)) (fun v t => N8.rec (motive := fun _ => N8 (M5)) (fun _ c1 c2 c3 c4 c5 c6 c7 => ⟨v, c1, c2, c3, c4, c5, c6, c7⟩) t) (fun v t => N8.rec (motive := fun _ => N8 (M5)) (fun c0 _ c2 c3 c4 c5 c6 c7 => ⟨c0, v, c2, c3, c4, c5, c6, c7⟩) t) (fun v t => N8.rec (motive := fun _ => N8 (M5)) (fun c0 c1 _ c3 c4 c5 c6 c7 => ⟨c0, c1, v, c3, c4, c5, c6, c7⟩) t) (fun v t => N8.rec (motive := fun _ => N8 (M5)) (fun c0 c1 c2 _ c4 c5 c6 c7 => ⟨c0, c1, c2, v, c4, c5, c6, c7⟩) t) (fun v t => N8.rec (motive := fun _ => N8 (M5)) (fun c0 c1 c2 c3 _ c5 c6 c7 => ⟨c0, c1, c2, c3, v, c5, c6, c7⟩) t) (fun v t => N8.rec (motive := fun _ => N8 (M5)) (fun c0 c1 c2 c3 c4 _ c6 c7 => ⟨c0, c1, c2, c3, c4, v, c6, c7⟩) t) (fun v t => N8.rec (motive := fun _ => N8 (M5)) (fun c0 c1 c2 c3 c4 c5 _ c7 => ⟨c0, c1, c2, c3, c4, c5, v, c7⟩) t) (fun v t => N8.rec (motive := fun _ => N8 (M5)) (fun c0 c1 c2 c3 c4 c5 c6 _ => ⟨c0, c1, c2, c3, c4, c5, c6, v⟩) t) d
theorem h6get_same (d : Dg) (v : M5) (t : N8 (M5)) : h6get d (h6set d v t) = v := by cases t; cases d <;> rfl
theorem h6get_other {d e : Dg} (h : e ≠ d) (v : M5) (t : N8 (M5)) : h6get e (h6set d v t) = h6get e t := by cases t; cases d <;> cases e <;> first | rfl | exact (h rfl).elim
noncomputable def h6getK (d : Dg) : N8 (M5) → (M5 → EX) → EX := Dg.rec (motive := fun _ => N8 (M5) → (M5 → EX) → EX) (fun t k => N8.rec (motive := fun _ => EX) (fun c0 _ _ _ _ _ _ _ => k c0) t) (fun t k => N8.rec (motive := fun _ => EX) (fun _ c1 _ _ _ _ _ _ => k c1) t) (fun t k => N8.rec (motive := fun _ => EX) (fun _ _ c2 _ _ _ _ _ => k c2) t) (fun t k => N8.rec (motive := fun _ => EX) (fun _ _ _ c3 _ _ _ _ => k c3) t) (fun t k => N8.rec (motive := fun _ => EX) (fun _ _ _ _ c4 _ _ _ => k c4) t) (fun t k => N8.rec (motive := fun _ => EX) (fun _ _ _ _ _ c5 _ _ => k c5) t) (fun t k => N8.rec (motive := fun _ => EX) (fun _ _ _ _ _ _ c6 _ => k c6) t) (fun t k => N8.rec (motive := fun _ => EX) (fun _ _ _ _ _ _ _ c7 => k c7) t) d
noncomputable def h6setK (d : Dg) : M5 → N8 (M5) → (N8 (M5) → EX) → EX := Dg.rec (motive := fun _ => M5 → N8 (M5) → (N8 (M5) → EX) → EX) (fun v t k => N8.rec (motive := fun _ => EX) (fun _ c1 c2 c3 c4 c5 c6 c7 => k ⟨v, c1, c2, c3, c4, c5, c6, c7⟩) t) (fun v t k => N8.rec (motive := fun _ => EX) (fun c0 _ c2 c3 c4 c5 c6 c7 => k ⟨c0, v, c2, c3, c4, c5, c6, c7⟩) t) (fun v t k => N8.rec (motive := fun _ => EX) (fun c0 c1 _ c3 c4 c5 c6 c7 => k ⟨c0, c1, v, c3, c4, c5, c6, c7⟩) t) (fun v t k => N8.rec (motive := fun _ => EX) (fun c0 c1 c2 _ c4 c5 c6 c7 => k ⟨c0, c1, c2, v, c4, c5, c6, c7⟩) t) (fun v t k => N8.rec (motive := fun _ => EX) (fun c0 c1 c2 c3 _ c5 c6 c7 => k ⟨c0, c1, c2, c3, v, c5, c6, c7⟩) t) (fun v t k => N8.rec (motive := fun _ => EX) (fun c0 c1 c2 c3 c4 _ c6 c7 => k ⟨c0, c1, c2, c3, c4, v, c6, c7⟩) t) (fun v t k => N8.rec (motive := fun _ => EX) (fun c0 c1 c2 c3 c4 c5 _ c7 => k ⟨c0, c1, c2, c3, c4, c5, v, c7⟩) t) (fun v t k => N8.rec (motive := fun _ => EX) (fun c0 c1 c2 c3 c4 c5 c6 _ => k ⟨c0, c1, c2, c3, c4, c5, c6, v⟩) t) d
theorem h6getK_eq (d : Dg) (t : N8 (M5)) (k : M5 → EX) : h6getK d t k = k (h6get d t) := by cases t; cases d <;> rfl
theorem h6setK_eq (d : Dg) (v : M5) (t : N8 (M5)) (k : N8 (M5) → EX) : h6setK d v t k = k (h6set d v t) := by cases t; cases d <;> rfl

/-! ### memory -/
noncomputable def z1 : M1 := ⟨.none, .none, .none, .none, .none, .none, .none, .none⟩
noncomputable def z2 : M2 := ⟨z1, z1, z1, z1, z1, z1, z1, z1⟩
noncomputable def z3 : M3 := ⟨z2, z2, z2, z2, z2, z2, z2, z2⟩
noncomputable def z4 : M4 := ⟨z3, z3, z3, z3, z3, z3, z3, z3⟩
noncomputable def z5 : M5 := ⟨z4, z4, z4, z4, z4, z4, z4, z4⟩
noncomputable def z6 : M6 := ⟨z5, z5, z5, z5, z5, z5, z5, z5⟩
noncomputable def mget (c : Nat) (t : M6) : CC := h1get (dgB c) (h2get (dgB (Nat.div c 8)) (h3get (dgB (Nat.div c 64)) (h4get (dgB (Nat.div c 512)) (h5get (dgB (Nat.div c 4096)) (h6get (dgB (Nat.div c 32768)) t)))))
noncomputable def mset (c : Nat) (v : CC) (t : M6) : M6 := h6set (dgB (Nat.div c 32768)) (h5set (dgB (Nat.div c 4096)) (h4set (dgB (Nat.div c 512)) (h3set (dgB (Nat.div c 64)) (h2set (dgB (Nat.div c 8)) (h1set (dgB c) v (h2get (dgB (Nat.div c 8)) (h3get (dgB (Nat.div c 64)) (h4get (dgB (Nat.div c 512)) (h5get (dgB (Nat.div c 4096)) (h6get (dgB (Nat.div c 32768)) t)))))) (h3get (dgB (Nat.div c 64)) (h4get (dgB (Nat.div c 512)) (h5get (dgB (Nat.div c 4096)) (h6get (dgB (Nat.div c 32768)) t))))) (h4get (dgB (Nat.div c 512)) (h5get (dgB (Nat.div c 4096)) (h6get (dgB (Nat.div c 32768)) t)))) (h5get (dgB (Nat.div c 4096)) (h6get (dgB (Nat.div c 32768)) t))) (h6get (dgB (Nat.div c 32768)) t)) t
noncomputable def mgetD (a b c d e f : Dg) (t : M6) (K : CC → EX) : EX := h6getK f t fun t => h5getK e t fun t => h4getK d t fun t => h3getK c t fun t => h2getK b t fun t => h1getK a t K
noncomputable def msetD (a b c d e f : Dg) (v : CC) (t6 : M6) (K : M6 → EX) : EX := h6getK f t6 fun t5 => h5getK e t5 fun t4 => h4getK d t4 fun t3 => h3getK c t3 fun t2 => h2getK b t2 fun t1 => h1setK a v t1 fun v => h2setK b v t2 fun v => h3setK c v t3 fun v => h4setK d v t4 fun v => h5setK e v t5 fun v => h6setK f v t6 K
noncomputable def mgetK (c : Nat) (t : M6) (K : CC → EX) : EX := mgetD (dgB c) (dgB (Nat.div c 8)) (dgB (Nat.div c 64)) (dgB (Nat.div c 512)) (dgB (Nat.div c 4096)) (dgB (Nat.div c 32768)) t K
noncomputable def msetK (c : Nat) (v : CC) (t : M6) (K : M6 → EX) : EX := msetD (dgB c) (dgB (Nat.div c 8)) (dgB (Nat.div c 64)) (dgB (Nat.div c 512)) (dgB (Nat.div c 4096)) (dgB (Nat.div c 32768)) v t K
theorem mgetK_eq (c : Nat) (t : M6) (K : CC → EX) : mgetK c t K = K (mget c t) := by simp only [mgetK, mgetD, mget, h1getK_eq, h2getK_eq, h3getK_eq, h4getK_eq, h5getK_eq, h6getK_eq]
theorem msetK_eq (c : Nat) (v : CC) (t : M6) (K : M6 → EX) : msetK c v t K = K (mset c v t) := by simp only [msetK, msetD, mset, h1getK_eq, h2getK_eq, h3getK_eq, h4getK_eq, h5getK_eq, h6getK_eq, h1setK_eq, h2setK_eq, h3setK_eq, h4setK_eq, h5setK_eq, h6setK_eq]
theorem mget_mset {i c : Nat} (hi : i < 262144) (hk : c < 262144) (v : CC) (t : M6) : mget i (mset c v t) = if i = c then v else mget i t := by
  unfold mget mset
  by_cases q6 : ¬ dgB (Nat.div i 32768) = dgB (Nat.div c 32768)
  · rw [h6get_other q6, if_neg (fun e => q6 (by rw [e]))]
  replace q6 := Classical.not_not.1 q6
  rw [q6, h6get_same]
  by_cases q5 : ¬ dgB (Nat.div i 4096) = dgB (Nat.div c 4096)
  · rw [h5get_other q5, if_neg (fun e => q5 (by rw [e]))]
  replace q5 := Classical.not_not.1 q5
  rw [q5, h5get_same]
  by_cases q4 : ¬ dgB (Nat.div i 512) = dgB (Nat.div c 512)
  · rw [h4get_other q4, if_neg (fun e => q4 (by rw [e]))]
  replace q4 := Classical.not_not.1 q4
  rw [q4, h4get_same]
  by_cases q3 : ¬ dgB (Nat.div i 64) = dgB (Nat.div c 64)
  · rw [h3get_other q3, if_neg (fun e => q3 (by rw [e]))]
  replace q3 := Classical.not_not.1 q3
  rw [q3, h3get_same]
  by_cases q2 : ¬ dgB (Nat.div i 8) = dgB (Nat.div c 8)
  · rw [h2get_other q2, if_neg (fun e => q2 (by rw [e]))]
  replace q2 := Classical.not_not.1 q2
  rw [q2, h2get_same]
  by_cases q1 : ¬ dgB i = dgB c
  · rw [h1get_other q1, if_neg (fun e => q1 (by rw [e]))]
  replace q1 := Classical.not_not.1 q1
  rw [q1, h1get_same]
  rw [if_pos]
  have e6 := (dgB_eq _ _).1 q6
  have e5 := (dgB_eq _ _).1 q5
  have e4 := (dgB_eq _ _).1 q4
  have e3 := (dgB_eq _ _).1 q3
  have e2 := (dgB_eq _ _).1 q2
  have e1 := (dgB_eq _ _).1 q1
  simp only [show ∀ a b, Nat.div a b = a / b from fun _ _ => rfl] at e1 e2 e3 e4 e5 e6
  omega
end Go.Proofs.Ytladpdndjcgebaa.Kx
