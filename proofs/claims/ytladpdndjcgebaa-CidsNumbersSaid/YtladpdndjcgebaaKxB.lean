/- A machine that runs closed code on known values: its operations, its run. Definitions, and what its selectors select. -/
import Derived.Test.YtladpdndjcgebaaKxA
namespace Go.Proofs.Ytladpdndjcgebaa.Kx
set_option linter.unusedVariables false
open Go Go.Proofs.Ytladpdndjcgebaa.Sx

noncomputable def hg (H : CH) (c : Nat) : CC := ifB (Nat.blt c H.n) (mget c H.t) .none
noncomputable def hgK (H : CH) (c : Nat) (K : CC → EX) : EX := CH.rec (motive := fun _ => EX) (fun n t => ifB (Nat.blt c n) (mgetK c t K) (K .none)) H
theorem hgK_eq (H : CH) (c : Nat) (K : CC → EX) : hgK H c K = K (hg H c) := by
  cases H with
  | mk n t =>
    show ifB (Nat.blt c n) (mgetK c t K) (K .none) = K (ifB (Nat.blt c n) (mget c t) .none)
    rw [mgetK_eq]
    cases Nat.blt c n <;> rfl
abbrev KK := SV → List Nat → List (Nat × CC) → EX

noncomputable def hw1 (x : Nat × CC) (k : CH → EX) (H : CH) : EX := CH.rec (motive := fun _ => EX) (fun n t => msetK x.1 x.2 t fun t => ifB (Nat.blt x.1 n) (k ⟨n, t⟩) (forceN (Nat.succ x.1) fun m => k ⟨m, t⟩)) H
/-- The chunks behind a step. -/
noncomputable def hwK (wr : List (Nat × CC)) (k : CH → EX) : CH → EX := List.rec (motive := fun _ => CH → EX) (fun H => k H) (fun x _ ih H => hw1 x ih H) wr
noncomputable def onNew (H : CH) (k : Nat → EX) : EX := ifB (Nat.blt H.n 262143) (forceN H.n k) (.bad "room")

/-! ### selectors -/
noncomputable def onI (x : SV) : (IntKind → Int → EX) → EX := SV.rec (motive_1 := fun _ => (IntKind → Int → EX) → EX) (motive_2 := fun _ => Unit)
  (fun x0 k => PV.rec (motive := fun _ => (IntKind → Int → EX) → EX) (fun y0 y1 k => k y0 y1) (fun y0 k => .bad "onI") (fun y0 k => .bad "onI") (fun y0 k => .bad "onI") (fun y0 y1 y2 _ih k => .bad "onI") (fun k => .bad "onI") x0 k)
  (fun k => .bad "onI")
  (fun x0 x1 k => .bad "onI")
  (fun x0 x1 x2 k => .bad "onI")
  (fun x0 x1 k => .bad "onI")
  (fun x0 x1 x2 x3 k => .bad "onI")
  (fun x0 x1 x2 x3 x4 k => .bad "onI")
  (fun x0 k => .bad "onI")
  (fun x0 k => .bad "onI")
  (fun x0 _ih k => .bad "onI")
  (fun x0 _ih k => .bad "onI")
  (fun x0 x1 _ih k => .bad "onI") () (fun _ _ _ _ => ()) x
theorem onI_ret {x : SV} {k} {s : SV} {H : CH} (h : onI x k = .ret s H) : ∃ kk n, x = .c (.i kk n) ∧ k kk n = .ret s H := by
  cases x with
  | c p => cases p with
    | i kk n => exact ⟨kk, n, rfl, h⟩
    | _ => cases h
  | _ => cases h
noncomputable def onPV (x : SV) : (PV → EX) → EX := SV.rec (motive_1 := fun _ => (PV → EX) → EX) (motive_2 := fun _ => Unit)
  (fun x0 k => k x0)
  (fun k => .bad "onPV")
  (fun x0 x1 k => .bad "onPV")
  (fun x0 x1 x2 k => .bad "onPV")
  (fun x0 x1 k => .bad "onPV")
  (fun x0 x1 x2 x3 k => .bad "onPV")
  (fun x0 x1 x2 x3 x4 k => .bad "onPV")
  (fun x0 k => .bad "onPV")
  (fun x0 k => .bad "onPV")
  (fun x0 _ih k => .bad "onPV")
  (fun x0 _ih k => .bad "onPV")
  (fun x0 x1 _ih k => .bad "onPV") () (fun _ _ _ _ => ()) x
theorem onPV_ret {x : SV} {k} {s : SV} {H : CH} (h : onPV x k = .ret s H) : ∃ p, x = .c p ∧ k p = .ret s H := by
  cases x with
  | c p => exact ⟨p, rfl, h⟩
  | _ => cases h
noncomputable def onB (x : SV) : (Bool → EX) → EX := SV.rec (motive_1 := fun _ => (Bool → EX) → EX) (motive_2 := fun _ => Unit)
  (fun x0 k => PV.rec (motive := fun _ => (Bool → EX) → EX) (fun y0 y1 k => .bad "onB") (fun y0 k => k y0) (fun y0 k => .bad "onB") (fun y0 k => .bad "onB") (fun y0 y1 y2 _ih k => .bad "onB") (fun k => .bad "onB") x0 k)
  (fun k => .bad "onB")
  (fun x0 x1 k => .bad "onB")
  (fun x0 x1 x2 k => .bad "onB")
  (fun x0 x1 k => .bad "onB")
  (fun x0 x1 x2 x3 k => .bad "onB")
  (fun x0 x1 x2 x3 x4 k => .bad "onB")
  (fun x0 k => .bad "onB")
  (fun x0 k => .bad "onB")
  (fun x0 _ih k => .bad "onB")
  (fun x0 _ih k => .bad "onB")
  (fun x0 x1 _ih k => .bad "onB") () (fun _ _ _ _ => ()) x
theorem onB_ret {x : SV} {k} {s : SV} {H : CH} (h : onB x k = .ret s H) : ∃ b, x = .c (.b b) ∧ k b = .ret s H := by
  cases x with
  | c p => cases p with
    | b b => exact ⟨b, rfl, h⟩
    | _ => cases h
  | _ => cases h
noncomputable def onS (x : SV) : (List UInt8 → EX) → EX := SV.rec (motive_1 := fun _ => (List UInt8 → EX) → EX) (motive_2 := fun _ => Unit)
  (fun x0 k => PV.rec (motive := fun _ => (List UInt8 → EX) → EX) (fun y0 y1 k => .bad "onS") (fun y0 k => .bad "onS") (fun y0 k => k y0) (fun y0 k => .bad "onS") (fun y0 y1 y2 _ih k => .bad "onS") (fun k => .bad "onS") x0 k)
  (fun k => .bad "onS")
  (fun x0 x1 k => .bad "onS")
  (fun x0 x1 x2 k => .bad "onS")
  (fun x0 x1 k => .bad "onS")
  (fun x0 x1 x2 x3 k => .bad "onS")
  (fun x0 x1 x2 x3 x4 k => .bad "onS")
  (fun x0 k => .bad "onS")
  (fun x0 k => .bad "onS")
  (fun x0 _ih k => .bad "onS")
  (fun x0 _ih k => .bad "onS")
  (fun x0 x1 _ih k => .bad "onS") () (fun _ _ _ _ => ()) x
theorem onS_ret {x : SV} {k} {s : SV} {H : CH} (h : onS x k = .ret s H) : ∃ b, x = .c (.s b) ∧ k b = .ret s H := by
  cases x with
  | c p => cases p with
    | s b => exact ⟨b, rfl, h⟩
    | _ => cases h
  | _ => cases h
noncomputable def onA (x : SV) : (Nat → Nat → EX) → (Nat → Nat → Nat → EX) → EX := SV.rec (motive_1 := fun _ => (Nat → Nat → EX) → (Nat → Nat → Nat → EX) → EX) (motive_2 := fun _ => Unit)
  (fun x0 kp kq => PV.rec (motive := fun _ => (Nat → Nat → EX) → (Nat → Nat → Nat → EX) → EX) (fun y0 y1 kp kq => .bad "onA") (fun y0 kp kq => .bad "onA") (fun y0 kp kq => .bad "onA") (fun y0 kp kq => .bad "onA") (fun y0 y1 y2 _ih kp kq => .bad "onA") (fun kp kq => .bad "onA") x0 kp kq)
  (fun kp kq => .bad "onA")
  (fun x0 x1 kp kq => kp x0 x1)
  (fun x0 x1 x2 kp kq => kq x0 x1 x2)
  (fun x0 x1 kp kq => .bad "onA")
  (fun x0 x1 x2 x3 kp kq => .bad "onA")
  (fun x0 x1 x2 x3 x4 kp kq => .bad "onA")
  (fun x0 kp kq => .bad "onA")
  (fun x0 kp kq => .bad "onA")
  (fun x0 _ih kp kq => .bad "onA")
  (fun x0 _ih kp kq => .bad "onA")
  (fun x0 x1 _ih kp kq => .bad "onA") () (fun _ _ _ _ => ()) x
theorem onA_ret {x : SV} {kp kq} {s : SV} {H : CH} (h : onA x kp kq = .ret s H) : (∃ c off, x = .p c off ∧ kp c off = .ret s H) ∨ ∃ c i j, x = .q c i j ∧ kq c i j = .ret s H := by
  cases x with
  | p c off => exact .inl ⟨c, off, rfl, h⟩
  | q c i j => exact .inr ⟨c, i, j, rfl, h⟩
  | c p => cases p <;> cases h
  | _ => cases h
def isNilS (v : Value) : Bool := match v with
  | .slice none 0 0 => true
  | _ => false
theorem isNilS_eq {v : Value} (h : isNilS v = true) : v = .slice none 0 0 := by
  unfold isNilS at h
  split at h
  · rfl
  · cases h
noncomputable def onL (x : SV) : (Nat → Nat → Nat → Option Nat → EX) → (Nat → Nat → Nat → Nat → Nat → EX) → (EX) → EX := SV.rec (motive_1 := fun _ => (Nat → Nat → Nat → Option Nat → EX) → (Nat → Nat → Nat → Nat → Nat → EX) → (EX) → EX) (motive_2 := fun _ => Unit)
  (fun x0 ks kc kn => PV.rec (motive := fun _ => (Nat → Nat → Nat → Option Nat → EX) → (Nat → Nat → Nat → Nat → Nat → EX) → (EX) → EX) (fun y0 y1 ks kc kn => .bad "onL") (fun y0 ks kc kn => .bad "onL") (fun y0 ks kc kn => .bad "onL") (fun y0 ks kc kn => ifB (isNilS y0) kn (.bad "onL")) (fun y0 y1 y2 _ih ks kc kn => .bad "onL") (fun ks kc kn => .bad "onL") x0 ks kc kn)
  (fun ks kc kn => .bad "onL")
  (fun x0 x1 ks kc kn => .bad "onL")
  (fun x0 x1 x2 ks kc kn => .bad "onL")
  (fun x0 x1 ks kc kn => .bad "onL")
  (fun x0 x1 x2 x3 ks kc kn => ks x0 x1 x2 x3)
  (fun x0 x1 x2 x3 x4 ks kc kn => kc x0 x1 x2 x3 x4)
  (fun x0 ks kc kn => .bad "onL")
  (fun x0 ks kc kn => .bad "onL")
  (fun x0 _ih ks kc kn => .bad "onL")
  (fun x0 _ih ks kc kn => .bad "onL")
  (fun x0 x1 _ih ks kc kn => .bad "onL") () (fun _ _ _ _ => ()) x
theorem onL_ret {x : SV} {ks kc kn} {s : SV} {H : CH} (h : onL x ks kc kn = .ret s H) : (∃ c st len lim, x = .sl c st len lim ∧ ks c st len lim = .ret s H) ∨ (∃ c off sz len cap, x = .sc c off sz len cap ∧ kc c off sz len cap = .ret s H) ∨ (x = .c (.v (.slice none 0 0)) ∧ kn = .ret s H) := by
  cases x with
  | sl c st len lim => exact .inl ⟨c, st, len, lim, rfl, h⟩
  | sc c off sz len cap => exact .inr (.inl ⟨c, off, sz, len, cap, rfl, h⟩)
  | c p => cases p with
    | v u =>
      refine .inr (.inr ?_)
      have h : ifB (isNilS u) kn (.bad "onL") = .ret s H := h
      rw [ifB_eq] at h
      split at h
      · rename_i hu; exact ⟨by rw [isNilS_eq hu], h⟩
      · cases h
    | _ => cases h
  | _ => cases h
noncomputable def onAg (x : SV) : (List SV → EX) → EX := SV.rec (motive_1 := fun _ => (List SV → EX) → EX) (motive_2 := fun _ => Unit)
  (fun x0 k => PV.rec (motive := fun _ => (List SV → EX) → EX) (fun y0 y1 k => .bad "onAg") (fun y0 k => .bad "onAg") (fun y0 k => .bad "onAg") (fun y0 k => .bad "onAg") (fun y0 y1 y2 _ih k => .bad "onAg") (fun k => .bad "onAg") x0 k)
  (fun k => .bad "onAg")
  (fun x0 x1 k => .bad "onAg")
  (fun x0 x1 x2 k => .bad "onAg")
  (fun x0 x1 k => .bad "onAg")
  (fun x0 x1 x2 x3 k => .bad "onAg")
  (fun x0 x1 x2 x3 x4 k => .bad "onAg")
  (fun x0 k => .bad "onAg")
  (fun x0 k => .bad "onAg")
  (fun x0 _ih k => k x0)
  (fun x0 _ih k => .bad "onAg")
  (fun x0 x1 _ih k => .bad "onAg") () (fun _ _ _ _ => ()) x
theorem onAg_ret {x : SV} {k} {s : SV} {H : CH} (h : onAg x k = .ret s H) : ∃ l, x = .a l ∧ k l = .ret s H := by
  cases x with
  | a l => exact ⟨l, rfl, h⟩
  | c p => cases p <;> cases h
  | _ => cases h
noncomputable def onTu (x : SV) : (List SV → EX) → EX := SV.rec (motive_1 := fun _ => (List SV → EX) → EX) (motive_2 := fun _ => Unit)
  (fun x0 k => PV.rec (motive := fun _ => (List SV → EX) → EX) (fun y0 y1 k => .bad "onTu") (fun y0 k => .bad "onTu") (fun y0 k => .bad "onTu") (fun y0 k => .bad "onTu") (fun y0 y1 y2 _ih k => .bad "onTu") (fun k => .bad "onTu") x0 k)
  (fun k => .bad "onTu")
  (fun x0 x1 k => .bad "onTu")
  (fun x0 x1 x2 k => .bad "onTu")
  (fun x0 x1 k => .bad "onTu")
  (fun x0 x1 x2 x3 k => .bad "onTu")
  (fun x0 x1 x2 x3 x4 k => .bad "onTu")
  (fun x0 k => .bad "onTu")
  (fun x0 k => .bad "onTu")
  (fun x0 _ih k => .bad "onTu")
  (fun x0 _ih k => k x0)
  (fun x0 x1 _ih k => .bad "onTu") () (fun _ _ _ _ => ()) x
theorem onTu_ret {x : SV} {k} {s : SV} {H : CH} (h : onTu x k = .ret s H) : ∃ l, x = .t l ∧ k l = .ret s H := by
  cases x with
  | t l => exact ⟨l, rfl, h⟩
  | c p => cases p <;> cases h
  | _ => cases h
noncomputable def onM (x : SV) : (Nat → EX) → EX := SV.rec (motive_1 := fun _ => (Nat → EX) → EX) (motive_2 := fun _ => Unit)
  (fun x0 k => PV.rec (motive := fun _ => (Nat → EX) → EX) (fun y0 y1 k => .bad "onM") (fun y0 k => .bad "onM") (fun y0 k => .bad "onM") (fun y0 k => .bad "onM") (fun y0 y1 y2 _ih k => .bad "onM") (fun k => .bad "onM") x0 k)
  (fun k => .bad "onM")
  (fun x0 x1 k => .bad "onM")
  (fun x0 x1 x2 k => .bad "onM")
  (fun x0 x1 k => .bad "onM")
  (fun x0 x1 x2 x3 k => .bad "onM")
  (fun x0 x1 x2 x3 x4 k => .bad "onM")
  (fun x0 k => k x0)
  (fun x0 k => .bad "onM")
  (fun x0 _ih k => .bad "onM")
  (fun x0 _ih k => .bad "onM")
  (fun x0 x1 _ih k => .bad "onM") () (fun _ _ _ _ => ()) x
theorem onM_ret {x : SV} {k} {s : SV} {H : CH} (h : onM x k = .ret s H) : ∃ c, x = .m c ∧ k c = .ret s H := by
  cases x with
  | m c => exact ⟨c, rfl, h⟩
  | c p => cases p <;> cases h
  | _ => cases h
noncomputable def onSt (x : SV) : (Nat → EX) → EX := SV.rec (motive_1 := fun _ => (Nat → EX) → EX) (motive_2 := fun _ => Unit)
  (fun x0 k => PV.rec (motive := fun _ => (Nat → EX) → EX) (fun y0 y1 k => .bad "onSt") (fun y0 k => .bad "onSt") (fun y0 k => .bad "onSt") (fun y0 k => .bad "onSt") (fun y0 y1 y2 _ih k => .bad "onSt") (fun k => .bad "onSt") x0 k)
  (fun k => .bad "onSt")
  (fun x0 x1 k => .bad "onSt")
  (fun x0 x1 x2 k => .bad "onSt")
  (fun x0 x1 k => .bad "onSt")
  (fun x0 x1 x2 x3 k => .bad "onSt")
  (fun x0 x1 x2 x3 x4 k => .bad "onSt")
  (fun x0 k => .bad "onSt")
  (fun x0 k => k x0)
  (fun x0 _ih k => .bad "onSt")
  (fun x0 _ih k => .bad "onSt")
  (fun x0 x1 _ih k => .bad "onSt") () (fun _ _ _ _ => ()) x
theorem onSt_ret {x : SV} {k} {s : SV} {H : CH} (h : onSt x k = .ret s H) : ∃ c, x = .st c ∧ k c = .ret s H := by
  cases x with
  | st c => exact ⟨c, rfl, h⟩
  | c p => cases p <;> cases h
  | _ => cases h
noncomputable def onFn (x : SV) : (Nat → List SV → EX) → EX := SV.rec (motive_1 := fun _ => (Nat → List SV → EX) → EX) (motive_2 := fun _ => Unit)
  (fun x0 k => PV.rec (motive := fun _ => (Nat → List SV → EX) → EX) (fun y0 y1 k => .bad "onFn") (fun y0 k => .bad "onFn") (fun y0 k => .bad "onFn") (fun y0 k => .bad "onFn") (fun y0 y1 y2 _ih k => .bad "onFn") (fun k => .bad "onFn") x0 k)
  (fun k => .bad "onFn")
  (fun x0 x1 k => .bad "onFn")
  (fun x0 x1 x2 k => .bad "onFn")
  (fun x0 x1 k => .bad "onFn")
  (fun x0 x1 x2 x3 k => .bad "onFn")
  (fun x0 x1 x2 x3 x4 k => .bad "onFn")
  (fun x0 k => .bad "onFn")
  (fun x0 k => .bad "onFn")
  (fun x0 _ih k => .bad "onFn")
  (fun x0 _ih k => .bad "onFn")
  (fun x0 x1 _ih k => k x0 x1) () (fun _ _ _ _ => ()) x
theorem onFn_ret {x : SV} {k} {s : SV} {H : CH} (h : onFn x k = .ret s H) : ∃ f l, x = .fn f l ∧ k f l = .ret s H := by
  cases x with
  | fn f l => exact ⟨f, l, rfl, h⟩
  | c p => cases p <;> cases h
  | _ => cases h
noncomputable def onNil (x : SV) : (EX) → EX := SV.rec (motive_1 := fun _ => (EX) → EX) (motive_2 := fun _ => Unit)
  (fun x0 k => PV.rec (motive := fun _ => (EX) → EX) (fun y0 y1 k => .bad "onNil") (fun y0 k => .bad "onNil") (fun y0 k => .bad "onNil") (fun y0 k => .bad "onNil") (fun y0 y1 y2 _ih k => .bad "onNil") (fun k => .bad "onNil") x0 k)
  (fun k => .bad "onNil")
  (fun x0 x1 k => k)
  (fun x0 x1 x2 k => k)
  (fun x0 x1 k => .bad "onNil")
  (fun x0 x1 x2 x3 k => .bad "onNil")
  (fun x0 x1 x2 x3 x4 k => .bad "onNil")
  (fun x0 k => .bad "onNil")
  (fun x0 k => .bad "onNil")
  (fun x0 _ih k => .bad "onNil")
  (fun x0 _ih k => .bad "onNil")
  (fun x0 x1 _ih k => k) () (fun _ _ _ _ => ()) x
theorem onNil_ret {x : SV} {k} {s : SV} {H : CH} (h : onNil x k = .ret s H) : ((∃ c o, x = .p c o) ∨ (∃ c i j, x = .q c i j) ∨ ∃ f l, x = .fn f l) ∧ k = .ret s H := by
  cases x with
  | p c o => exact ⟨.inl ⟨c, o, rfl⟩, h⟩
  | q c i j => exact ⟨.inr (.inl ⟨c, i, j, rfl⟩), h⟩
  | fn f l => exact ⟨.inr (.inr ⟨f, l, rfl⟩), h⟩
  | c p => cases p <;> cases h
  | _ => cases h
def isNil {α : Type} : List α → Bool
  | [] => true
  | _ => false
noncomputable def onG (x : SV) : (Bool → EX) → (EX) → EX := SV.rec (motive_1 := fun _ => (Bool → EX) → (EX) → EX) (motive_2 := fun _ => Unit)
  (fun x0 k kn => PV.rec (motive := fun _ => (Bool → EX) → (EX) → EX) (fun y0 y1 k kn => .bad "onG") (fun y0 k kn => k y0) (fun y0 k kn => .bad "onG") (fun y0 k kn => .bad "onG") (fun y0 y1 y2 _ih k kn => .bad "onG") (fun k kn => .bad "onG") x0 k kn)
  (fun k kn => .bad "onG")
  (fun x0 x1 k kn => .bad "onG")
  (fun x0 x1 x2 k kn => .bad "onG")
  (fun x0 x1 k kn => .bad "onG")
  (fun x0 x1 x2 x3 k kn => .bad "onG")
  (fun x0 x1 x2 x3 x4 k kn => .bad "onG")
  (fun x0 k kn => .bad "onG")
  (fun x0 k kn => .bad "onG")
  (fun x0 _ih k kn => .bad "onG")
  (fun x0 _ih k kn => ifB (isNil x0) kn (.bad "onG"))
  (fun x0 x1 _ih k kn => .bad "onG") () (fun _ _ _ _ => ()) x
theorem onG_ret {x : SV} {k kn} {s : SV} {H : CH} (h : onG x k kn = .ret s H) : (∃ b, x = .c (.b b) ∧ k b = .ret s H) ∨ (x = .t [] ∧ kn = .ret s H) := by
  cases x with
  | c p => cases p with
    | b b => exact .inl ⟨b, rfl, h⟩
    | _ => cases h
  | t l =>
    cases l with
    | nil => exact .inr ⟨rfl, h⟩
    | cons a b => cases h
  | _ => cases h
noncomputable def onCells (c : CC) : (Nat → Nat → D → EX) → EX := CCx.rec (motive := fun _ => (Nat → Nat → D → EX) → EX) (fun _ => .bad "cells") (fun T n t k => k T n t) (fun _ _ _ _ _ => .bad "cells") (fun _ _ _ _ _ => .bad "cells") c
noncomputable def onVs (c : CC) : (Nat → Nat → Nat → D → EX) → EX := CCx.rec (motive := fun _ => (Nat → Nat → Nat → D → EX) → EX) (fun _ => .bad "vs") (fun _ _ _ _ => .bad "vs") (fun T sz n t k => k T sz n t) (fun _ _ _ _ _ => .bad "vs") c
noncomputable def onMap (c : CC) : (MK → Nat → List (List Int × List PV) → List (Nat × List Int) → EX) → EX := CCx.rec (motive := fun _ => (MK → Nat → List (List Int × List PV) → List (Nat × List Int) → EX) → EX) (fun _ => .bad "map") (fun _ _ _ _ => .bad "map") (fun _ _ _ _ _ => .bad "map") (fun m n l s k => k m n l s) c
theorem onCells_ret {c : CC} {k} {s : SV} {H : CH} (h : onCells c k = .ret s H) : ∃ T n t, c = .cells T n t ∧ k T n t = .ret s H := by
  cases c with
  | cells T n t => exact ⟨T, n, t, rfl, h⟩
  | _ => cases h
theorem onVs_ret {c : CC} {k} {s : SV} {H : CH} (h : onVs c k = .ret s H) : ∃ T sz n t, c = .vs T sz n t ∧ k T sz n t = .ret s H := by
  cases c with
  | vs T sz n t => exact ⟨T, sz, n, t, rfl, h⟩
  | _ => cases h
theorem onMap_ret {c : CC} {k} {s : SV} {H : CH} (h : onMap c k = .ret s H) : ∃ m n l t, c = .map m n l t ∧ k m n l t = .ret s H := by
  cases c with
  | map m n l t => exact ⟨m, n, l, t, rfl, h⟩
  | _ => cases h
theorem ifB_ret {b : Bool} {x : EX} {w : String} {s : SV} {H : CH} (h : ifB b x (.bad w) = .ret s H) : b = true ∧ x = .ret s H := by
  cases b with
  | true => exact ⟨rfl, h⟩
  | false => cases h
theorem ifN_ret {b : Bool} {x : EX} {w : String} {s : SV} {H : CH} (h : ifB b (.bad w) x = .ret s H) : b = false ∧ x = .ret s H := by
  cases b with
  | false => exact ⟨rfl, h⟩
  | true => cases h
theorem onNew_ret {H : CH} {k} {s : SV} {H' : CH} (h : onNew H k = .ret s H') : H.n < 262143 ∧ k H.n = .ret s H' := by
  obtain ⟨h1, h2⟩ := ifB_ret h
  rw [forceN_eq] at h2
  exact ⟨by rwa [Nat.blt_eq] at h1, h2⟩


/-! ### what an operand is; where a result goes -/
noncomputable def gb (nt : Nat) (x : Operand) : GB := match x with
  | .tmp n => ifB (Nat.blt n nt) (tgetB n) ⟨fun _ K => K undefS⟩
  | .const e => ⟨fun _ K => K (ofVal e)⟩
  | .global g => ⟨fun _ K => K (.c (.v (.pointer (some ⟨g, 0, none⟩))))⟩
  | .func f => ⟨fun _ K => K (.fn f [])⟩
noncomputable def gvK (nt : Nat) (x : Operand) (t : N3) (K : SV → EX) : EX := GB.rec (motive := fun _ => EX) (fun g => g t K) (gb nt x)
noncomputable def gvsK (nt : Nat) (t : N3) (l : List Operand) : (List SV → EX) → EX := List.rec (motive := fun _ => (List SV → EX) → EX) (fun K => K []) (fun x _ ih K => gvK nt x t fun v => ih fun r => K (v :: r)) l
noncomputable def sb (nt : Nat) (d : Option Nat) : SB := match d with
  | none => ⟨fun _ t K => K t⟩
  | some k => ifB (Nat.blt k nt) (tsetB k) ⟨fun _ t K => K t⟩

/-! ### cells -/
noncomputable def trdK (n : Nat) (t : D) : Nat → (List SV → EX) → EX := Nat.rec (motive := fun _ => Nat → (List SV → EX) → EX) (fun _ K => K []) (fun _ ih off K => dgetK off t fun v => forceN (Nat.succ off) fun o => ih o fun r => K (v :: r)) n
noncomputable def twrK (l : List SV) : Nat → D → (D → EX) → EX := List.rec (motive := fun _ => Nat → D → (D → EX) → EX) (fun _ t K => K t) (fun x _ ih off t K => dsetK off x t fun t => forceN (Nat.succ off) fun o => ih o t K) l
noncomputable def rdvK (sz : Nat) (ag : Bool) (off : Nat) (t : D) (K : SV → EX) : EX := ifB ag (trdK sz t off fun l => K (.a l)) (dgetK off t K)

/-! ### ints -/
noncomputable def wrapU (m : Nat) (x : Int) : Int := Int.rec (motive := fun _ => Int) (fun n => .ofNat (Nat.mod n m)) (fun n => .ofNat (Nat.sub (Nat.sub m 1) (Nat.mod n m))) x
noncomputable def sgnd (h m : Nat) (n : Nat) : Int := ifB (Nat.blt n h) (.ofNat n) (.negSucc (Nat.sub (Nat.sub m 1) n))
noncomputable def wrapS (h m : Nat) (x : Int) : Int := Int.rec (motive := fun _ => Int) (fun n => sgnd h m (Nat.mod n m)) (fun n => sgnd h m (Nat.sub (Nat.sub m 1) (Nat.mod n m))) x
noncomputable def cwrap (k : IntKind) : Int → Int := IntKind.rec (motive := fun _ => Int → Int) (wrapS 128 256) (wrapS 32768 65536) (wrapS 2147483648 4294967296) (wrapS 9223372036854775808 18446744073709551616) (wrapU 256) (wrapU 65536) (wrapU 4294967296) (wrapU 18446744073709551616) k
noncomputable def intK (k : IntKind) (x : Int) (K : KK) : EX := Int.rec (motive := fun _ => EX) (fun n => forceN n fun n => K (.c (.i k (.ofNat n))) [] []) (fun n => forceN n fun n => K (.c (.i k (.negSucc n))) [] []) x
noncomputable def intW (k : IntKind) (x : Int) (K : KK) : EX := intK k (cwrap k x) K
noncomputable def cbool (b : Bool) (K : KK) : EX := Bool.rec (motive := fun _ => EX) (K (.c (.b false)) [] []) (K (.c (.b true)) [] []) b
noncomputable def cle (a b : Int) : Bool := Int.rec (motive := fun _ => Int → Bool)
  (fun m b => Int.rec (motive := fun _ => Bool) (fun n => Nat.ble m n) (fun _ => false) b)
  (fun m b => Int.rec (motive := fun _ => Bool) (fun _ => true) (fun n => Nat.ble n m) b) a b
noncomputable def clt (a b : Int) : Bool := Int.rec (motive := fun _ => Int → Bool)
  (fun m b => Int.rec (motive := fun _ => Bool) (fun n => Nat.blt m n) (fun _ => false) b)
  (fun m b => Int.rec (motive := fun _ => Bool) (fun _ => true) (fun n => Nat.blt n m) b) a b
noncomputable def ceq (a b : Int) : Bool := Int.rec (motive := fun _ => Int → Bool)
  (fun m b => Int.rec (motive := fun _ => Bool) (fun n => Nat.beq m n) (fun _ => false) b)
  (fun m b => Int.rec (motive := fun _ => Bool) (fun _ => false) (fun n => Nat.beq n m) b) a b
/-- a number as bits of its kind -/
noncomputable def toU (m : Nat) (x : Int) : Nat := Int.rec (motive := fun _ => Nat) (fun n => Nat.mod n m) (fun n => Nat.sub (Nat.sub m 1) (Nat.mod n m)) x
noncomputable def kIdx (k : IntKind) : Nat := IntKind.rec (motive := fun _ => Nat) 0 1 2 3 4 5 6 7 k
noncomputable def kBits (k : IntKind) : Nat := IntKind.rec (motive := fun _ => Nat) 8 16 32 64 8 16 32 64 k
noncomputable def kEq (k j : IntKind) : Bool := Nat.beq (kIdx k) (kIdx j)
noncomputable def natI (n : Int) : Nat := Int.rec (motive := fun _ => Nat) (fun m => m) (fun _ => 0) n

structure OB where
  g : KK → N3 → CH → EX
/-- Two ints of one kind. -/
noncomputable def two (f : IntKind → Int → Int → KK → EX) (K : KK) (x y : SV) : EX := onI x fun k a => onI y fun j b => ifB (kEq k j) (f k a b K) (.bad "kinds")
noncomputable def oInt (nt : Nat) (x y : Operand) (f : IntKind → Int → Int → KK → EX) : OB := GB.rec (motive := fun _ => OB) (fun gx => GB.rec (motive := fun _ => OB) (fun gy => ⟨fun K t _ => gx t fun x => gy t fun y => two f K x y⟩) (gb nt y)) (gb nt x)
noncomputable def fAdd (k : IntKind) (a b : Int) (K : KK) : EX := intW k (Int.add a b) K
noncomputable def fSub (k : IntKind) (a b : Int) (K : KK) : EX := intW k (Int.add a (Int.neg b)) K
noncomputable def fMul (k : IntKind) (a b : Int) (K : KK) : EX := intW k (Int.mul a b) K
noncomputable def fQuo (k : IntKind) (a b : Int) (K : KK) : EX := ifB (ceq b 0) (.bad "quo") (intW k (Int.tdiv a b) K)
noncomputable def fRem (k : IntKind) (a b : Int) (K : KK) : EX := ifB (ceq b 0) (.bad "rem") (intK k (Int.tmod a b) K)
noncomputable def fBits (f : Nat → Nat → Nat) (k : IntKind) (a b : Int) (K : KK) : EX := intW k (.ofNat (f (toU (Nat.pow 2 (kBits k)) a) (toU (Nat.pow 2 (kBits k)) b))) K
noncomputable def fAndNot (k : IntKind) (a b : Int) (K : KK) : EX := intW k (.ofNat (Nat.land (toU (Nat.pow 2 (kBits k)) a) (Nat.sub (Nat.sub (Nat.pow 2 (kBits k)) 1) (toU (Nat.pow 2 (kBits k)) b)))) K
noncomputable def fCmp (f : Int → Int → Bool) (_ : IntKind) (a b : Int) (K : KK) : EX := cbool (f a b) K
noncomputable def shK (f : Int → Nat → Int) (wr : Bool) (K : KK) (x y : SV) : EX := onI x fun k a => onI y fun _ b => ifB (cle 0 b) (ifB wr (intW k (f a (Nat.pow 2 (Nat.min (natI b) (kBits k)))) K) (intK k (f a (Nat.pow 2 (Nat.min (natI b) (kBits k)))) K)) (.bad "shift")
noncomputable def oSh (nt : Nat) (x y : Operand) (f : Int → Nat → Int) (wr : Bool) : OB := GB.rec (motive := fun _ => OB) (fun gx => GB.rec (motive := fun _ => OB) (fun gy => ⟨fun K t _ => gx t fun x => gy t fun y => shK f wr K x y⟩) (gb nt y)) (gb nt x)

noncomputable def l8Eq (a : List UInt8) : List UInt8 → Bool := List.rec (motive := fun _ => List UInt8 → Bool)
  (fun b => List.rec (motive := fun _ => Bool) true (fun _ _ _ => false) b)
  (fun x _ ih b => List.rec (motive := fun _ => Bool) false (fun y r _ => ifB (Nat.beq x.toNat y.toNat) (ih r) false) b) a
noncomputable def svEqL (K : KK) (ng : Bool) (a : List SV) : List SV → Bool → EX := List.rec (motive := fun _ => List SV → Bool → EX)
  (fun b e => List.rec (motive := fun _ => EX) (cbool (ifB ng (!e) e) K) (fun _ _ _ => .bad "eq: length") b)
  (fun x _ ih b e => List.rec (motive := fun _ => EX) (.bad "eq: length") (fun y r _ => onI x fun k m => onI y fun j n => ifB (kEq k j) (ifB (ceq m n) (ih r e) (ih r false)) (.bad "eq: kinds")) b) a
noncomputable def isZ (n : Nat) : Bool := Nat.beq n 0
noncomputable def isNilP (v : Value) : Bool := match v with | .pointer none => true | _ => false
/-- A pointer: is it nil? -/
noncomputable def onPtr (x : SV) (kp kn : EX) : EX := match x with
  | .p _ _ => kp
  | .c (.v v) => ifB (isNilP v) kn (.bad "eq: pointer")
  | _ => .bad "eq: pointer"
noncomputable def eqK (ti : TI) (ng : Bool) (K : KK) (H : CH) (x y : SV) : EX := match ti.k with
  | .bool => onB x fun a => onB y fun b => cbool (ifB ng (ifB a (!b) b) (ifB a b (!b))) K
  | .str => onS x fun a => onS y fun b => cbool (ifB ng (!l8Eq a b) (l8Eq a b)) K
  | .ptr _ => onPtr x (onPtr y (.bad "eq: two pointers") (cbool ng K)) (onPtr y (cbool ng K) (cbool (!ng) K))
  | .sl _ => onL y (fun _ _ _ _ => .bad "eq: slice") (fun _ _ _ _ _ => .bad "eq: slice") (onL x
      (fun C _ _ _ => hgK H C fun c => onVs c fun _ z n _ => ifB (isZ (Nat.mul n z)) (.bad "eq: empty") (K (.c (.b ng)) [C] [])) (fun _ _ _ _ _ => cbool ng K) (cbool (!ng) K))
  | _ => ifB (ti.eq && ti.agg) (onAg x fun l => onAg y fun r => ifB (Nat.beq (llen l) ti.sz && Nat.beq (llen r) ti.sz) (svEqL K ng l r true) (.bad "eq: size")) (.bad "eq: type")
noncomputable def oEq (nt : Nat) (ti : TI) (x y : Operand) (ng : Bool) : OB := GB.rec (motive := fun _ => OB) (fun gx => GB.rec (motive := fun _ => OB) (fun gy => ⟨fun K t H => gx t fun x => gy t fun y => eqK ti ng K H x y⟩) (gb nt y)) (gb nt x)
noncomputable def isInt (k : TK) : Bool := match k with | .int _ => true | _ => false
noncomputable def oBin (nt : Nat) (ti : TI) (op : BinOp) (x y : Operand) : OB := ifB (isInt ti.k) (match op with
    | .add => oInt nt x y fAdd
    | .sub => oInt nt x y fSub
    | .mul => oInt nt x y fMul
    | .quo => oInt nt x y fQuo
    | .rem => oInt nt x y fRem
    | .and => oInt nt x y (fBits Nat.land)
    | .or => oInt nt x y (fBits Nat.lor)
    | .xor => oInt nt x y (fBits Nat.xor)
    | .andNot => oInt nt x y fAndNot
    | .eql => oInt nt x y (fCmp ceq)
    | .neq => oInt nt x y (fCmp fun a b => !ceq a b)
    | .lss => oInt nt x y (fCmp clt)
    | .leq => oInt nt x y (fCmp cle)
    | .gtr => oInt nt x y (fCmp fun a b => clt b a)
    | .geq => oInt nt x y (fCmp fun a b => cle b a)
    | .shl => oSh nt x y (fun a m => Int.mul a (.ofNat m)) true
    | .shr => oSh nt x y (fun a m => Int.fdiv a (.ofNat m)) false) (match op with
    | .eql => oEq nt ti x y false
    | .neq => oEq nt ti x y true
    | _ => ⟨fun _ _ _ => .bad "binOp"⟩)
noncomputable def oUn (nt : Nat) (op : UnOp) (x : Operand) : OB := match op with
  | .not => ⟨fun K t _ => gvK nt x t fun x => onB x fun e => cbool (!e) K⟩
  | .neg => ⟨fun K t _ => gvK nt x t fun x => onI x fun k n => intW k (Int.neg n) K⟩
  | _ => ⟨fun _ _ _ => .bad "unOp"⟩

/-! ### memory -/
noncomputable def ldP (sz : Nat) (ag : Bool) (K : KK) (H : CH) (C off : Nat) : EX := hgK H C fun c => onCells c fun _ n d => ifB (Nat.ble (Nat.add off sz) n) (rdvK sz ag off d fun v => K v [C] []) (.bad "load")
noncomputable def ldQ (sz : Nat) (ag : Bool) (K : KK) (H : CH) (C i j : Nat) : EX := hgK H C fun c => onVs c fun _ z n d => ifB (Nat.blt i n) (ifB (Nat.ble (Nat.add j sz) z) (forceN (Nat.add (Nat.mul i z) j) fun o => rdvK sz ag o d fun v => K v [C] []) (.bad "load")) (.bad "load")
noncomputable def okTy (ti : TI) : Bool := ifB ti.k.isOther false (ifB (isZ ti.sz) false (ifB ti.agg true (Nat.beq ti.sz 1)))
noncomputable def oLoad (nt : Nat) (ti : TI) (x : Operand) : OB := ifB (okTy ti) (GB.rec (motive := fun _ => OB) (fun gx => ⟨fun K t H => gx t fun x => onA x (ldP ti.sz ti.agg K H) (ldQ ti.sz ti.agg K H)⟩) (gb nt x)) ⟨fun _ _ _ => .bad "load: type"⟩
noncomputable def wrvK (ag : Bool) (v : SV) (off : Nat) (d : D) (K : D → EX) : EX := ifB ag (onAg v fun l => twrK l off d K) (dsetK off v d K)
noncomputable def stP (sz : Nat) (ag : Bool) (v : SV) (K : KK) (H : CH) (C off : Nat) : EX := hgK H C fun c => onCells c fun T n d => ifB (Nat.ble (Nat.add off sz) n) (wrvK ag v off d fun d => K undefS [] [(C, .cells T n d)]) (.bad "store")
noncomputable def stQ (sz : Nat) (ag : Bool) (v : SV) (K : KK) (H : CH) (C i j : Nat) : EX := hgK H C fun c => onVs c fun T z n d => ifB (Nat.blt i n) (ifB (Nat.ble (Nat.add j sz) z) (forceN (Nat.add (Nat.mul i z) j) fun o => wrvK ag v o d fun d => K undefS [] [(C, .vs T z n d)]) (.bad "store")) (.bad "store")
/-- May the value be taken for the very cells that it is of? -/
noncomputable def okVal (a x : Operand) : Bool := match x with
  | .tmp i => match a with
    | .tmp j => !Nat.beq i j
    | _ => true
  | .const e => match consts (cellsOf (ofVal e)) with
    | some _ => true
    | none => false
  | .global _ => true
  | .func _ => false
noncomputable def flatV (x : SV) : Bool := SV.rec (motive_1 := fun _ => Bool) (motive_2 := fun _ => Unit) (fun _ => true) false (fun _ _ => true) (fun _ _ _ => true) (fun _ _ => true) (fun _ _ _ _ => true) (fun _ _ _ _ _ => true) (fun _ => true) (fun _ => true) (fun _ _ => false) (fun _ _ => false) (fun _ _ _ => true) () (fun _ _ _ _ => ()) x
noncomputable def flatL (l : List SV) : Bool := List.rec (motive := fun _ => Bool) true (fun x _ ih => ifB (flatV x) ih false) l
noncomputable def lenB (l : List SV) : Nat → Bool := List.rec (motive := fun _ => Nat → Bool) (fun n => Nat.beq n 0) (fun _ _ ih n => Nat.rec (motive := fun _ => Bool) false (fun m _ => ih m) n) l
/-- A value of so many cells, one of several or one. -/
noncomputable def fits (sz : Nat) (ag : Bool) (v : SV) (k : EX) : EX := ifB ag (onAg v fun l => ifB (lenB l sz) (ifB (flatL l) k (.bad "store: flat")) (.bad "store: size")) (ifB (flatV v) k (.bad "store: flat"))
noncomputable def oStore (nt : Nat) (ti : TI) (oa ox : Operand) : OB := ifB (okTy ti) (GB.rec (motive := fun _ => OB) (fun ga => GB.rec (motive := fun _ => OB) (fun gx => ⟨fun K t H => gx t fun v => ga t fun a => fits ti.sz ti.agg v (onA a (stP ti.sz ti.agg v K H) (fun C i j => ifB (okVal oa ox) (stQ ti.sz ti.agg v K H C i j) (.bad "store: value")))⟩) (gb nt ox)) (gb nt oa)) ⟨fun _ _ _ => .bad "store: type"⟩

/-- The value's cells. -/
noncomputable def onC (v : SV) (k : List SV → EX) : EX := k (cellsOf v)
noncomputable def fillK (nt m : Nat) (place : Nat → Option (Nat × Nat)) (tm : N3) (k : D → EX) : List (Nat × Operand) → D → EX := List.rec (motive := fun _ => D → EX) (fun d => k d)
  (fun x _ ih d => match place x.1 with
    | none => .bad "fill"
    | some (off, size) => gvK nt x.2 tm fun v => ifB (lenB (cellsOf v) size) (ifB (flatL (cellsOf v)) (ifB (Nat.ble (Nat.add off size) m) (twrK (cellsOf v) off d ih) (.bad "fill: beyond")) (.bad "fill: flat")) (.bad "fill: size"))
/-- Cells of zeros. -/
noncomputable def zeroK (z : List SV) (K : D → EX) : EX := twrK z 0 [] K
noncomputable def oBuild (nt : Nat) (ty : Ty) (T : Nat) (parts : List (Nat × Operand)) : OB := match (ty T).k with
  | .st fs => ifB (knownF ty fs && !(ty T).k.isOther) ⟨fun K t _ => zeroK (mapC (ty T).z) (fillK nt (ty T).sz (placeS ty fs) t (fun d => trdK (ty T).sz d 0 fun l => K (.a l) [] []) parts)⟩ ⟨fun _ _ _ => .bad "build: fields"⟩
  | .arr _ e => ifB (ty e).k.isOther ⟨fun _ _ _ => .bad "build: element"⟩ ⟨fun K t _ => zeroK (mapC (ty T).z) (fillK nt (ty T).sz (placeA (ty e).sz) t (fun d => trdK (ty T).sz d 0 fun l => K (.a l) [] []) parts)⟩
  | _ => ⟨fun _ _ _ => .bad "build: of what"⟩
noncomputable def oBuildSlice (nt : Nat) (ty : Ty) (T n : Nat) (parts : List (Nat × Operand)) : OB := match (ty T).k with
  | .sl e => ifB ((ty e).k.isOther || Nat.blt 16777216 (Nat.mul n (ty e).sz) || Nat.beq (ty e).sz 0) ⟨fun _ _ _ => .bad "buildSlice"⟩
      ⟨fun K t H => onNew H fun c => zeroK (rep n (mapC (ty e).z)) (fillK nt (Nat.mul n (ty e).sz) (placeA (ty e).sz) t (fun d => trdK (Nat.mul n (ty e).sz) d 0 fun l => ifB (flatL l) (K (.sl c 0 n none) [] [(c, .vs e (ty e).sz n d)]) (.bad "buildSlice: flat")) parts)⟩
  | _ => ⟨fun _ _ _ => .bad "buildSlice: of what"⟩
noncomputable def faP (off : Nat) (K : KK) (C o : Nat) : EX := forceN (Nat.add o off) fun k => K (.p C k) [] []
noncomputable def faQ (off : Nat) (K : KK) (C i j : Nat) : EX := forceN (Nat.add j off) fun k => K (.q C i k) [] []
noncomputable def oFieldAddr (nt : Nat) (ty : Ty) (T f : Nat) (x : Operand) : OB := match (ty T).k with
  | .st fs => match nth fs f with
    | some (off, e) => ifB ((ty e).k.isOther || Nat.beq (ty e).sz 0) ⟨fun _ _ _ => .bad "fieldAddr"⟩ (GB.rec (motive := fun _ => OB) (fun gx => ⟨fun K t _ => gx t fun x => onA x (faP off K) (faQ off K)⟩) (gb nt x))
    | none => ⟨fun _ _ _ => .bad "fieldAddr"⟩
  | _ => ⟨fun _ _ _ => .bad "fieldAddr"⟩
noncomputable def packK (sz : Nat) (ag : Bool) (K : KK) (r : Option (List SV)) : EX := match r with
  | some r => ifB ag (K (.a r) [] []) (match r with | [s] => K s [] [] | _ => .bad "pack")
  | none => .bad "beyond"
noncomputable def oField (nt : Nat) (ty : Ty) (T f : Nat) (x : Operand) : OB := match (ty T).k with
  | .st fs => match nth fs f with
    | some (off, e) => ifB (ty e).k.isOther ⟨fun _ _ _ => .bad "field"⟩ ⟨fun K t _ => gvK nt x t fun x => onAg x fun l => packK (ty e).sz (ty e).agg K (lslice off (ty e).sz l)⟩
    | none => ⟨fun _ _ _ => .bad "field"⟩
  | _ => ⟨fun _ _ _ => .bad "field"⟩
noncomputable def inR (n : Int) (len : Nat) : Bool := Int.rec (motive := fun _ => Bool) (fun m => Nat.blt m len) (fun _ => false) n
noncomputable def ixS (sz : Nat) (K : KK) (H : CH) (n : Int) (C st len : Nat) (_ : Option Nat) : EX := hgK H C fun c => onVs c fun _ z _ _ => ifB (Nat.beq z sz) (ifB (inR n len) (forceN (Nat.add st (natI n)) fun k => K (.q C k 0) [C] []) (.bad "indexAddr: range")) (.bad "indexAddr: size")
noncomputable def ixC (sz : Nat) (K : KK) (n : Int) (C off z len _cap : Nat) : EX := ifB (Nat.beq z sz) (ifB (inR n len) (forceN (Nat.add off (Nat.mul (natI n) z)) fun k => K (.p C k) [] []) (.bad "indexAddr: range")) (.bad "indexAddr: size")
noncomputable def oIndexAddr (nt : Nat) (ty : Ty) (T : Nat) (x i : Operand) : OB := match (ty T).k with
  | .sl e => ifB ((ty e).k.isOther || isZ (ty e).sz) ⟨fun _ _ _ => .bad "indexAddr"⟩ (GB.rec (motive := fun _ => OB) (fun gx => GB.rec (motive := fun _ => OB) (fun gi =>
    ⟨fun K t H => gi t fun i => gx t fun x => onI i fun _ n => onL x (ixS (ty e).sz K H n) (ixC (ty e).sz K n) (.bad "indexAddr: nil")⟩) (gb nt i)) (gb nt x))
  | .arr N e => ifB (ty e).k.isOther ⟨fun _ _ _ => .bad "indexAddr"⟩ (GB.rec (motive := fun _ => OB) (fun gx => GB.rec (motive := fun _ => OB) (fun gi =>
    ⟨fun K t _ => gi t fun i => gx t fun x => onI i fun _ n => ifB (inR n N) (onA x (faP (Nat.mul (natI n) (ty e).sz) K) (faQ (Nat.mul (natI n) (ty e).sz) K)) (.bad "indexAddr: range")⟩) (gb nt i)) (gb nt x))
  | _ => ⟨fun _ _ _ => .bad "indexAddr"⟩
noncomputable def byteK (l : List UInt8) (n : Nat) (K : KK) : EX := forceN (l.getD n 0).toNat fun b => K (.c (.i .u8 (.ofNat b))) [] []
noncomputable def oIndex (nt : Nat) (ty : Ty) (T : Nat) (x i : Operand) : OB := match (ty T).k with
  | .arr N e => ifB (ty e).k.isOther ⟨fun _ _ _ => .bad "index"⟩ ⟨fun K t _ => gvK nt i t fun i => gvK nt x t fun x => onI i fun _ n => onAg x fun l => ifB (inR n N) (packK (ty e).sz (ty e).agg K (lslice (Nat.mul (natI n) (ty e).sz) (ty e).sz l)) (.bad "index")⟩
  | .str => ⟨fun K t _ => gvK nt i t fun i => gvK nt x t fun x => onI i fun _ n => onS x fun l => ifB (inR n l.length) (byteK l (natI n) K) (.bad "index")⟩
  | _ => ⟨fun _ _ _ => .bad "index"⟩
/-- A bound: a number, none below 0. -/
noncomputable def bndK (nt : Nat) (d : Nat) (x : Option Operand) (t : N3) (k : Nat → EX) : EX := match x with
  | none => k d
  | some x => gvK nt x t fun x => onI x fun _ n => ifB (cle 0 n) (k (natI n)) (.bad "bound")
noncomputable def limK (l : Nat) (lim : Option Nat) (k : Option Nat → EX) : EX := match lim with
  | none => k none
  | some m => forceN (Nat.sub m l) fun m => k (some m)
noncomputable def slS (K : KK) (H : CH) (sz : Nat) (C st len : Nat) (lim : Option Nat) (l h : Nat) : EX := hgK H C fun c => onVs c fun _ z _ _ => ifB (Nat.beq z sz) (ifB (Nat.ble l h) (ifB (Nat.ble h len) (forceN (Nat.add st l) fun a => forceN (Nat.sub h l) fun b => limK l lim fun m => K (.sl C a b m) [C] []) (.bad "slice: high")) (.bad "slice: low")) (.bad "slice: size")
noncomputable def slS3 (K : KK) (H : CH) (sz : Nat) (C st len : Nat) (l h m : Nat) : EX := hgK H C fun c => onVs c fun _ z _ _ => ifB (Nat.beq z sz) (ifB (Nat.ble l h) (ifB (Nat.ble h m) (ifB (Nat.ble m len) (forceN (Nat.add st l) fun a => forceN (Nat.sub h l) fun b => forceN (Nat.sub m l) fun c => K (.sl C a b (some c)) [C] []) (.bad "slice: max")) (.bad "slice: high")) (.bad "slice: low")) (.bad "slice: size")
noncomputable def slC (K : KK) (sz : Nat) (C off z : Nat) (l h m : Nat) (cap : Nat) : EX := ifB (Nat.beq z sz) (ifB (Nat.ble l h) (ifB (Nat.ble h m) (ifB (Nat.ble m cap) (forceN (Nat.add off (Nat.mul l z)) fun a => forceN (Nat.sub h l) fun b => forceN (Nat.sub m l) fun c => K (.sc C a z b c) [] []) (.bad "slice: max")) (.bad "slice: high")) (.bad "slice: low")) (.bad "slice: size")
noncomputable def nilV : SV := .c (.v (.slice none 0 0))
noncomputable def slN (K : KK) (l h m : Nat) : EX := ifB (Nat.beq l 0) (ifB (Nat.beq h 0) (ifB (Nat.beq m 0) (K nilV [] []) (.bad "slice: max")) (.bad "slice: high")) (.bad "slice: low")
noncomputable def oSlice (nt : Nat) (ty : Ty) (T : Nat) (x : Operand) (lo hi mx : Option Operand) : OB := match (ty T).k with
  | .sl e => ifB ((ty e).k.isOther || isZ (ty e).sz) ⟨fun _ _ _ => .bad "slice"⟩ (match mx with
    | none => ⟨fun K t H => gvK nt x t fun x => bndK nt 0 lo t fun l => onL x
        (fun C st len lim => bndK nt len hi t fun h => slS K H (ty e).sz C st len lim l h)
        (fun _ _ _ _ _ => .bad "slice: of an array's slice")
        (bndK nt 0 hi t fun h => slN K l h 0)⟩
    | some m => match hi with
      | none => ⟨fun _ _ _ => .bad "slice"⟩
      | some hh => ⟨fun K t H => gvK nt x t fun x => bndK nt 0 lo t fun l => bndK nt 0 (some hh) t fun h => bndK nt 0 (some m) t fun m => onL x
        (fun C st len _ => slS3 K H (ty e).sz C st len l h m)
        (fun _ _ _ _ _ => .bad "slice: of an array's slice")
        (slN K l h m)⟩)
  | .arr N e => ifB (ty e).k.isOther ⟨fun _ _ _ => .bad "slice"⟩ (match mx with
    | none => ⟨fun K t _ => gvK nt x t fun x => bndK nt 0 lo t fun l => bndK nt N hi t fun h => onA x (fun C off => slC K (ty e).sz C off (ty e).sz l h N N) (fun _ _ _ => .bad "slice: q")⟩
    | _ => ⟨fun _ _ _ => .bad "slice"⟩)
  | .str => match mx with
    | none => ⟨fun K t _ => gvK nt x t fun x => onS x fun b => bndK nt 0 lo t fun l => bndK nt b.length hi t fun h => ifB (Nat.ble l h) (ifB (Nat.ble h b.length) (K (.c (.s ((b.drop l).take (Nat.sub h l)))) [] []) (.bad "slice: high")) (.bad "slice: low")⟩
    | _ => ⟨fun _ _ _ => .bad "slice"⟩
  | _ => ⟨fun _ _ _ => .bad "slice: of what"⟩

noncomputable def pvK (l : List SV) : (List PV → EX) → EX := List.rec (motive := fun _ => (List PV → EX) → EX) (fun K => K []) (fun x _ ih K => onPV x fun p => ih fun r => K (p :: r)) l
noncomputable def bytesK (b : List UInt8) : (List SV → EX) → EX := List.rec (motive := fun _ => (List SV → EX) → EX) (fun k => k []) (fun x _ ih k => forceN x.toNat fun n => ih fun r => k (.c (.i .u8 (.ofNat n)) :: r)) b
/-- What a slice or a string holds: how many, their cells, what is read. -/
noncomputable def srcK (sz : Nat) (H : CH) (x : SV) (k : Nat → List SV → List Nat → EX) : EX := onL x
  (fun C st len _ => hgK H C fun c => onVs c fun _ z n d => ifB (Nat.beq z sz) (ifB (Nat.ble (Nat.add st len) n) (forceN (Nat.mul st sz) fun o => trdK (Nat.mul len sz) d o fun l => k len l [C]) (.bad "src: row")) (.bad "src: size"))
  (fun C off z len _ => hgK H C fun c => onCells c fun _ n d => ifB (Nat.beq z sz) (ifB (Nat.ble (Nat.add off (Nat.mul len sz)) n) (trdK (Nat.mul len sz) d off fun l => pvK l fun _ => k len l [C]) (.bad "src: cells")) (.bad "src: size"))
  (k 0 [] [])
noncomputable def srcS (sz : Nat) (x : SV) (k : Nat → List SV → List Nat → EX) : EX := onS x fun b => ifB (Nat.beq sz 1) (bytesK b fun l => k b.length l []) (.bad "src: string")
/-- A new row: what stood there, copied (from a place on), and more behind it. -/
noncomputable def apNew (e sz : Nat) (K : KK) (H : CH) (rd : List Nat) (old : List (Nat × CC)) (len m : Nat) (g : List SV) (t : D) : EX := onNew H fun c => twrK g (Nat.mul len sz) t fun t => forceN (Nat.add len m) fun k => K (.sl c 0 k none) rd (old ++ [(c, .vs e sz k t)])
noncomputable def apMove (e sz : Nat) (K : KK) (H : CH) (rd : List Nat) (len m : Nat) (g : List SV) (o : Nat) (t : D) : EX := trdK (Nat.mul len sz) t o fun l => twrK l 0 [] fun t => apNew e sz K H rd [] len m g t
noncomputable def apS (e sz by_ : Nat) (K : KK) (H : CH) (m : Nat) (g : List SV) (rd : List Nat) (C st len : Nat) (lim : Option Nat) : EX := hgK H C fun c => onVs c fun T z n t => ifB (Nat.beq z sz) (ifB (Nat.beq T e) (ifB (Nat.ble (Nat.add st len) n) (ifB (Nat.ble (Nat.mul (Nat.add len m) by_) 140737488355328 && Nat.ble (Nat.add len m) 9223372036854775807) (ifB (isZ m) (K (.sl C st len lim) (C :: rd) []) (match lim with
    | none => ifB (isZ st) (apNew e sz K H rd [(C, .none)] len m g t) (trdK (Nat.mul len sz) t (Nat.mul st sz) fun l => twrK l 0 [] fun t => apNew e sz K H rd [(C, .none)] len m g t)
    | some r => ifB (Nat.blt r (Nat.add len m)) (apMove e sz K H (C :: rd) len m g (Nat.mul st sz) t) (.bad "append: in place"))) (.bad "append: great")) (.bad "append: row")) (.bad "append: type")) (.bad "append: size")
noncomputable def apN (e sz by_ : Nat) (K : KK) (H : CH) (m : Nat) (g : List SV) (rd : List Nat) : EX := ifB (isZ m) (K nilV rd []) (ifB (Nat.ble (Nat.mul m by_) 140737488355328 && Nat.ble m 9223372036854775807) (apNew e sz K H rd [] 0 m g []) (.bad "append: great"))
noncomputable def appTo (e sz by_ : Nat) (K : KK) (H : CH) (d : SV) (m : Nat) (g : List SV) (rd : List Nat) : EX := onL d (apS e sz by_ K H m g rd) (fun _ _ _ _ _ => .bad "append: to an array's slice") (apN e sz by_ K H m g rd)
noncomputable def oAppend (nt : Nat) (ty : Ty) (T : Nat) (str : Bool) (d x : Operand) : OB := match (ty T).k with
  | .sl e => ifB (Nat.beq (ty e).sz 0 || (ty e).k.isOther) ⟨fun _ _ _ => .bad "append"⟩ (ifB str
      ⟨fun K t H => gvK nt x t fun x => gvK nt d t fun d => srcS (ty e).sz x fun m g rd => appTo e (ty e).sz (ty e).by_ K H d m g rd⟩
      ⟨fun K t H => gvK nt x t fun x => gvK nt d t fun d => srcK (ty e).sz H x fun m g rd => appTo e (ty e).sz (ty e).by_ K H d m g rd⟩)
  | _ => ⟨fun _ _ _ => .bad "append"⟩
noncomputable def copyTo (sz : Nat) (K : KK) (H : CH) (d : SV) (m : Nat) (g : List SV) (rd : List Nat) : EX := onL d
  (fun C st len _ => hgK H C fun c => onVs c fun T z n t => ifB (Nat.beq z sz) (ifB (Nat.ble (Nat.add st len) n) (forceN (Nat.min m len) fun k => twrK (List.take (Nat.mul k sz) g) (Nat.mul st sz) t fun t => K (.c (.i .i64 (.ofNat k))) rd [(C, .vs T z n t)]) (.bad "copy: row")) (.bad "copy: size"))
  (fun C off z len _ => hgK H C fun c => onCells c fun T n t => ifB (Nat.beq z sz) (ifB (Nat.ble (Nat.add off (Nat.mul len sz)) n) (forceN (Nat.min m len) fun k => twrK (List.take (Nat.mul k sz) g) off t fun t => K (.c (.i .i64 (.ofNat k))) rd [(C, .cells T n t)]) (.bad "copy: row")) (.bad "copy: size"))
  (.bad "copy: nil")
noncomputable def oCopy (nt : Nat) (ty : Ty) (T : Nat) (str : Bool) (d x : Operand) : OB := match (ty T).k with
  | .sl e => ifB (Nat.beq (ty e).sz 0 || (ty e).k.isOther) ⟨fun _ _ _ => .bad "copy"⟩ (ifB str
      ⟨fun K t H => gvK nt x t fun x => gvK nt d t fun d => srcS (ty e).sz x fun m g rd => copyTo (ty e).sz K H d m g rd⟩
      ⟨fun K t H => gvK nt x t fun x => gvK nt d t fun d => srcK (ty e).sz H x fun m g rd => copyTo (ty e).sz K H d m g rd⟩)
  | _ => ⟨fun _ _ _ => .bad "copy"⟩
noncomputable def oClear (nt : Nat) (ty : Ty) (T : Nat) (x : Operand) : OB := match (ty T).k with
  | .sl e => ifB (Nat.beq (ty e).sz 0 || (ty e).k.isOther) ⟨fun _ _ _ => .bad "clear"⟩ ⟨fun K t H => gvK nt x t fun x => onL x
      (fun C st len _ => hgK H C fun c => onVs c fun T z n t => ifB (Nat.beq z (ty e).sz) (ifB (Nat.ble (Nat.add st len) n) (twrK (rep len (mapC (ty e).z)) (Nat.mul st z) t fun t => K undefS [] [(C, .vs T z n t)]) (.bad "clear: row")) (.bad "clear: size"))
      (fun _ _ _ _ _ => .bad "clear: cells") (.bad "clear: nil")⟩
  | _ => ⟨fun _ _ _ => .bad "clear"⟩
noncomputable def intI (n : Nat) (K : KK) : EX := forceN n fun n => K (.c (.i .i64 (.ofNat n))) [] []
noncomputable def lnS (K : KK) (_ _ len : Nat) (_ : Option Nat) : EX := intI len K
noncomputable def lnC (K : KK) (_ _ _ len _cap : Nat) : EX := intI len K
noncomputable def oLen (nt : Nat) (ty : Ty) (T : Nat) (x : Operand) : OB := match (ty T).k with
  | .arr n _ => ⟨fun K _ _ => intI n K⟩
  | .ptr t => match (ty t).k with
    | .arr n _ => ⟨fun K _ _ => intI n K⟩
    | _ => ⟨fun _ _ _ => .bad "len"⟩
  | .sl _ => GB.rec (motive := fun _ => OB) (fun gx => ⟨fun K t _ => gx t fun x => onL x (lnS K) (lnC K) (intI 0 K)⟩) (gb nt x)
  | .str => ⟨fun K t _ => gvK nt x t fun x => onS x fun b => intI b.length K⟩
  | .map _ _ => ⟨fun K t H => gvK nt x t fun x => onM x fun C => hgK H C fun c => onMap c fun _ n _ _ => forceN n fun n => K (.c (.i .i64 (.ofNat n))) [C] []⟩
  | _ => ⟨fun _ _ _ => .bad "len"⟩
noncomputable def mmK (mx : Bool) (K : KK) (l : List SV) : IntKind → Int → EX := List.rec (motive := fun _ => IntKind → Int → EX) (fun k n => intK k n K)
  (fun x _ ih k n => onI x fun _ m => ifB (ifB mx (clt n m) (clt m n)) (ih k m) (ih k n)) l
noncomputable def byteS (s : SV) : Option UInt8 := match s with
  | .c (.i .u8 n) => some (UInt8.ofNat n.toNat)
  | _ => none
noncomputable def toBytes (l : List SV) : Option (List UInt8) := List.rec (motive := fun _ => Option (List UInt8)) (some []) (fun s _ ih => match byteS s with
  | some b => (match ih with | some r => some (b :: r) | none => none)
  | none => none) l
noncomputable def strOf (K : KK) (rd : List Nat) (o : Option (List UInt8)) : EX := match o with
  | some b => K (.c (.s b)) rd []
  | none => .bad "convert: bytes"
noncomputable def oConvert (nt : Nat) (ty : Ty) (S D : Nat) (x : Operand) : OB := ifB (ty S).k.isOther ⟨fun _ _ _ => .bad "convert"⟩ (match (ty D).k with
  | .int k => GB.rec (motive := fun _ => OB) (fun gx => ⟨fun K t _ => gx t fun x => onI x fun _ n => intW k n K⟩) (gb nt x)
  | .str => match (ty S).k with
    | .str => ⟨fun K t _ => gvK nt x t fun x => onS x fun b => K (.c (.s b)) [] []⟩
    | .sl e => match (ty e).k with
      | .int .u8 => ⟨fun K t H => gvK nt x t fun x => srcK 1 H x fun _ l rd => strOf K rd (toBytes l)⟩
      | _ => ⟨fun _ _ _ => .bad "convert: string"⟩
    | _ => ⟨fun _ _ _ => .bad "convert: string"⟩
  | .sl e => match (ty S).k with
    | .str => match (ty e).k with
      | .int .u8 => ⟨fun K t H => gvK nt x t fun x => onS x fun b => onNew H fun c => forceN b.length fun n => ifB (Nat.ble n 9223372036854775807) (bytesK b fun l => twrK l 0 [] fun t => K (.sl c 0 n none) [] [(c, .vs e 1 n t)]) (.bad "convert: great")⟩
      | _ => ⟨fun _ _ _ => .bad "convert: slice"⟩
    | _ => ⟨fun _ _ _ => .bad "convert: slice"⟩
  | _ => ⟨fun _ _ _ => .bad "convert"⟩)

noncomputable def liEq (a : List Int) : List Int → Bool := List.rec (motive := fun _ => List Int → Bool)
  (fun b => List.rec (motive := fun _ => Bool) true (fun _ _ _ => false) b)
  (fun x _ ih b => List.rec (motive := fun _ => Bool) false (fun y r _ => ifB (ceq x y) (ih r) false) b) a
noncomputable def aget (k : List Int) (l : List (List Int × List PV)) : Option (List PV) := List.rec (motive := fun _ => Option (List PV)) none (fun x _ ih => ifB (liEq x.1 k) (some x.2) ih) l
noncomputable def asetK (k : List Int) (v : List PV) (l : List (List Int × List PV)) : (List (List Int × List PV) → EX) → EX := List.rec (motive := fun _ => (List (List Int × List PV) → EX) → EX) (fun K => K [(k, v)]) (fun x r ih K => ifB (liEq x.1 k) (K ((k, v) :: r)) (ih fun r => K (x :: r))) l
noncomputable def adelK (k : List Int) (l : List (List Int × List PV)) : (List (List Int × List PV) → EX) → EX := List.rec (motive := fun _ => (List (List Int × List PV) → EX) → EX) (fun K => K []) (fun x _ ih K => ifB (liEq x.1 k) (ih K) (ih fun r => K (x :: r))) l
noncomputable def keyLK (k : IntKind) (l : List SV) : (List Int → EX) → EX := List.rec (motive := fun _ => (List Int → EX) → EX) (fun K => K []) (fun x _ ih K => onI x fun j n => ifB (kEq j k) (ih fun r => K (n :: r)) (.bad "key: kinds")) l
noncomputable def keySK (k : MK) (x : SV) (K : List Int → EX) : EX := ifB k.ag (onAg x fun l => ifB (lenB l k.ks) (keyLK k.kk l K) (.bad "key: size")) (onI x fun j n => ifB (kEq j k.kk) (K [n]) (.bad "key: kind"))
noncomputable def bEq (a b : Bool) : Bool := ifB a b (!b)
noncomputable def mkEq (a b : MK) : Bool := ifB (kEq a.kk b.kk) (ifB (bEq a.ag b.ag) (ifB (Nat.beq a.ks b.ks) (bEq a.va b.va) false) false) false
noncomputable def mapK (mk : MK) (H : CH) (x k : SV) (f : Nat → Nat → List (List Int × List PV) → List (Nat × List Int) → List Int → EX) : EX := keySK mk k fun key => onM x fun C => hgK H C fun c => onMap c fun mk' n l sts => ifB (mkEq mk' mk) (f C n l sts key) (.bad "map: kind")
structure MB where
  of ::
  E : Nat
  mk : MK
noncomputable def mkB (ty : Ty) (T : Nat) : Option MB := match (ty T).k with
  | .map K E => match mkOf ty K E with
    | some mk => some ⟨E, mk⟩
    | none => none
  | _ => none
noncomputable def keepV (z : List PV) (o : Option (List PV)) : List PV := match o with | some v => v | none => z
noncomputable def isSome' (o : Option (List PV)) : Bool := match o with | some _ => true | none => false
noncomputable def packO' (ag : Bool) (K : SV → EX) (l : List SV) : EX := ifB ag (K (.a l)) (match l with | [s] => K s | _ => .bad "pack")
noncomputable def lkK (ti : TI) (ok : Bool) (K : KK) (C : Nat) (o : Option (List PV)) : EX := packO' ti.agg (fun v => ifB ok (K (.t [v, .c (.b (isSome' o))]) [C] []) (K v [C] [])) (mapC (keepV ti.z o))
noncomputable def oLookup (nt : Nat) (ty : Ty) (T : Nat) (ok : Bool) (x k : Operand) : OB := match mkB ty T with
  | some ⟨E, mk⟩ => ⟨fun K t H => gvK nt x t fun x => gvK nt k t fun k => mapK mk H x k fun C _ l _ key => lkK (ty E) ok K C (aget key l)⟩
  | none => ⟨fun _ _ _ => .bad "lookup"⟩
noncomputable def acount (n : Nat) (o : Option (List PV)) : Nat := match o with | some _ => n | none => Nat.succ n
/-- A map's new value, as plain cells. -/
noncomputable def plainK (ag : Bool) (v : SV) (K : List PV → EX) : EX := ifB ag (onAg v fun l => pvK l K) (onPV v fun p => K [p])
noncomputable def oMapUpdate (nt : Nat) (ty : Ty) (T : Nat) (x k e : Operand) : OB := match mkB ty T with
  | some ⟨E, mk⟩ => ⟨fun K t H => gvK nt x t fun x => gvK nt k t fun k => gvK nt e t fun e => mapK mk H x k fun C n l sts key => fits (ty E).sz (ty E).agg e (plainK (ty E).agg e fun v => forceN (acount n (aget key l)) fun m => asetK key v l fun l => K undefS [] [(C, .map mk m l sts)])⟩
  | none => ⟨fun _ _ _ => .bad "mapUpdate"⟩
noncomputable def oMapEntry (nt : Nat) (ty : Ty) (T : Nat) (x k : Operand) : OB := match mkB ty T with
  | some ⟨E, mk⟩ => ⟨fun K t H => gvK nt x t fun x => gvK nt k t fun k => onNew H fun c => mapK mk H x k fun C n l sts key => forceN (acount n (aget key l)) fun m => asetK key (keepV (ty E).z (aget key l)) l fun l' => packO' (ty E).agg (fun v => K (.t [v, .st c]) [] [(C, .map mk m l' ((c, key) :: sts)), (c, .none)]) (mapC (keepV (ty E).z (aget key l)))⟩
  | none => ⟨fun _ _ _ => .bad "mapEntry"⟩
noncomputable def stampK (d : Nat) (k : List Int → EX) (l : List (Nat × List Int)) : EX := List.rec (motive := fun _ => EX) (.bad "stamp") (fun x _ ih => ifB (Nat.beq x.1 d) (k x.2) ih) l
noncomputable def oEntryStore (nt : Nat) (ty : Ty) (T : Nat) (x stamp e : Operand) : OB := match mkB ty T with
  | some ⟨E, mk⟩ => ⟨fun K t H => gvK nt x t fun x => gvK nt stamp t fun d => gvK nt e t fun e => onM x fun C => onSt d fun d => hgK H C fun c => onMap c fun mk' n l sts => ifB (mkEq mk' mk) (stampK d (fun key => fits (ty E).sz (ty E).agg e (plainK (ty E).agg e fun v => asetK key v l fun l => K undefS [] [(C, .map mk n l sts)])) sts) (.bad "entryStore: kind")⟩
  | none => ⟨fun _ _ _ => .bad "entryStore"⟩
noncomputable def dcount (n : Nat) (o : Option (List PV)) : Nat := match o with | some _ => Nat.pred n | none => n
noncomputable def oDelete (nt : Nat) (ty : Ty) (T : Nat) (x k : Operand) : OB := match mkB ty T with
  | some ⟨_, mk⟩ => ⟨fun K t H => gvK nt x t fun x => gvK nt k t fun k => mapK mk H x k fun C n l _ key => forceN (dcount n (aget key l)) fun m => adelK key l fun l => K (.t []) [] [(C, .map mk m l [])]⟩
  | none => ⟨fun _ _ _ => .bad "delete"⟩
noncomputable def oMakeMap (ty : Ty) (T : Nat) : OB := match mkB ty T with
  | some ⟨_, mk⟩ => ⟨fun K _ H => onNew H fun c => K (.m c) [] [(c, .map mk 0 [] [])]⟩
  | none => ⟨fun _ _ _ => .bad "makeMap"⟩
noncomputable def oMakeSlice (nt : Nat) (ty : Ty) (T : Nat) (x y : Operand) : OB := match (ty T).k with
  | .sl e => ifB (Nat.beq (ty e).sz 0 || (ty e).k.isOther) ⟨fun _ _ _ => .bad "makeSlice"⟩ ⟨fun K t H => gvK nt x t fun x => gvK nt y t fun y => onI x fun _ l => onI y fun _ c => ifB (cle 0 l) (ifB (cle l c) (ifB (Nat.ble (Nat.mul (ty e).by_ (natI c)) 281474976710656) (ifB (Nat.ble (natI c) 9223372036854775807)
      (onNew H fun C => forceN (natI l) fun n => twrK (rep n (mapC (ty e).z)) 0 [] fun t => K (.sl C 0 n none) [] [(C, .vs e (ty e).sz n t)]) (.bad "makeSlice: size")) (.bad "makeSlice: size")) (.bad "makeSlice: cap")) (.bad "makeSlice: len")⟩
  | _ => ⟨fun _ _ _ => .bad "makeSlice"⟩
noncomputable def oAlloc (ty : Ty) (T : Nat) : OB := ifB (ty T).k.isOther ⟨fun _ _ _ => .bad "alloc"⟩ ⟨fun K _ H => onNew H fun c => zeroK (mapC (ty T).z) fun d => K (.p c 0) [] [(c, .cells T (llen (mapC (ty T).z)) d)]⟩
noncomputable def boxK (T : Nat) (K : KK) (H : CH) (l : List SV) : EX := ifB (flatL l) (onNew H fun c => twrK l 0 [] fun d => forceN (llen l) fun n => K (.p c 0) [] [(c, .cells T n d)]) (.bad "box")
noncomputable def oBox (nt : Nat) (T : Nat) (x : Operand) : OB := ⟨fun K t H => gvK nt x t fun x => boxK T K H (cellsOf x)⟩
noncomputable def pickK (b : Bool) (x y : SV) (K : KK) : EX := Bool.rec (motive := fun _ => EX) (K y [] []) (K x [] []) b
noncomputable def oPick (nt : Nat) (c x y : Operand) : OB := GB.rec (motive := fun _ => OB) (fun gc => GB.rec (motive := fun _ => OB) (fun gx => GB.rec (motive := fun _ => OB) (fun gy => ⟨fun K t _ => gc t fun c => onB c fun b => gx t fun x => gy t fun y => pickK b x y K⟩) (gb nt y)) (gb nt x)) (gb nt c)
noncomputable def nthK (K : KK) (l : List SV) : Nat → EX := List.rec (motive := fun _ => Nat → EX) (fun _ => .bad "extract") (fun x _ ih i => Nat.rec (motive := fun _ => EX) (K x [] []) (fun i _ => ih i) i) l

noncomputable def oBuiltin (nt : Nat) (ty : Ty) (b : Builtin) (args : List Operand) (tys : List Nat) : OB := match b, args, tys with
  | .len, [x], T :: _ => oLen nt ty T x
  | .append, [d, x], [T, S] => match (ty S).k with
    | .sl _ => oAppend nt ty T false d x
    | .str => oAppend nt ty T true d x
    | _ => ⟨fun _ _ _ => .bad "append: make"⟩
  | .copy, [d, x], [T, S] => match (ty S).k with
    | .sl _ => oCopy nt ty T false d x
    | .str => oCopy nt ty T true d x
    | _ => ⟨fun _ _ _ => .bad "copy: of what"⟩
  | .delete, [x, k], T :: _ => oDelete nt ty T x k
  | .clear, [x], T :: _ => oClear nt ty T x
  | .min, x :: r, _ => ⟨fun K t _ => gvK nt x t fun x => onI x fun k n => gvsK nt t r fun l => mmK false K l k n⟩
  | .max, x :: r, _ => ⟨fun K t _ => gvK nt x t fun x => onI x fun k n => gvsK nt t r fun l => mmK true K l k n⟩
  | _, _, _ => ⟨fun _ _ _ => .bad "built-in"⟩
/-- An operation that is no call of a function. -/
noncomputable def oOp (nt : Nat) (ty : Ty) (o : Op) : OB := match o with
  | .move x => GB.rec (motive := fun _ => OB) (fun gx => ⟨fun K t _ => gx t fun v => K v [] []⟩) (gb nt x)
  | .assign x => GB.rec (motive := fun _ => OB) (fun gx => ⟨fun K t _ => gx t fun v => K v [] []⟩) (gb nt x)
  | .pick c a b => oPick nt c a b
  | .alloc T => oAlloc ty T
  | .box T x => oBox nt T x
  | .build T parts => oBuild nt ty T parts.toList
  | .buildSlice T n parts => oBuildSlice nt ty T n parts.toList
  | .load T x => oLoad nt (ty T) x
  | .store T a x => oStore nt (ty T) a x
  | .nilCheck x => GB.rec (motive := fun _ => OB) (fun gx => ⟨fun K t _ => gx t fun v => onNil v (K v [] [])⟩) (gb nt x)
  | .binOp op T x y _ => oBin nt (ty T) op x y
  | .unOp op _ x => oUn nt op x
  | .convert S D x => oConvert nt ty S D x
  | .makeFunc (.func f) first caps => ifB first.isEmpty ⟨fun K t _ => gvsK nt t caps.toList fun l => K (.fn f l) [] []⟩ ⟨fun _ _ _ => .bad "makeFunc"⟩
  | .makeMap T none => oMakeMap ty T
  | .makeSlice T l c => oMakeSlice nt ty T l c
  | .slice T x lo hi mx => oSlice nt ty T x lo hi mx
  | .fieldAddr T x f => oFieldAddr nt ty T f x
  | .field T x f => oField nt ty T f x
  | .indexAddr T x i => oIndexAddr nt ty T x i
  | .index T x i => oIndex nt ty T x i
  | .lookup T x i ok => oLookup nt ty T ok x i
  | .mapUpdate T m k x => oMapUpdate nt ty T m k x
  | .insert T m k x => oMapUpdate nt ty T m k x
  | .mapEntry T m k => oMapEntry nt ty T m k
  | .entryStore T m s x => oEntryStore nt ty T m s x
  | .extract x i => ⟨fun K t _ => gvK nt x t fun x => onTu x fun l => nthK K l i⟩
  | .call c => match c.callee with
    | .builtin b => oBuiltin nt ty b c.args.toList c.argTypes.toList
    | _ => ⟨fun _ _ _ => .bad "call"⟩
  | _ => ⟨fun _ _ _ => .bad "operation"⟩

/-! ### a call amid a draw: it is handed just what it can reach -/
mutual
noncomputable def namesS : SV → List Nat → List Nat
  | .p C _, a => C :: a
  | .q C _ _, a => C :: a
  | .sl C _ _ _, a => C :: a
  | .sc C _ _ _ _, a => C :: a
  | .m C, a => C :: a
  | .st C, a => C :: a
  | .a l, a => namesL l a
  | .t l, a => namesL l a
  | .fn _ l, a => namesL l a
  | .c _, a => a
  | .top, a => a
  | .pe _ _, a => a
noncomputable def namesL : List SV → List Nat → List Nat
  | [], a => a
  | s :: l, a => namesS s (namesL l a)
end
noncomputable def namesC (c : CC) (a : List Nat) (K : List Nat → EX) : EX := match c with
  | .cells _ n t => trdK n t 0 fun l => K (namesL l a)
  | .vs _ sz n t => trdK (Nat.mul n sz) t 0 fun l => K (namesL l a)
  | .map _ _ _ sts => K (sts.map (·.1) ++ a)
  | .none => K a
noncomputable def hasN (c : Nat) (l : List Nat) : Bool := List.rec (motive := fun _ => Bool) false (fun x _ ih => ifB (Nat.beq x c) true ih) l
noncomputable def reachK (H : CH) (K : List Nat → EX) (f : Nat) : List Nat → List Nat → EX := Nat.rec (motive := fun _ => List Nat → List Nat → EX) (fun _ _ => .bad "reach")
  (fun _ ih todo acc => List.rec (motive := fun _ => EX) (K acc) (fun c r _ => ifB (hasN c acc) (ih r acc) (hgK H c fun x => namesC x r fun r => ih r (acc ++ [c]))) todo) f
/-- Memory with just the chunks of these names. -/
noncomputable def subK (H : CH) (K : M6 → EX) (idx : List Nat) : M6 → EX := List.rec (motive := fun _ => M6 → EX) (fun t => K t) (fun c _ ih t => hgK H c fun x => msetK c x t ih) idx
/-- The chunks of these names, and those of the names from k on. -/
noncomputable def backK (H : CH) (n : Nat) : Nat → (List (Nat × CC) → EX) → EX := Nat.rec (motive := fun _ => Nat → (List (Nat × CC) → EX) → EX) (fun _ K => K [])
  (fun _ ih k K => hgK H k fun x => forceN (Nat.succ k) fun k' => ih k' fun r => K ((k, x) :: r)) n
noncomputable def backL (H : CH) (idx : List Nat) : Nat → (List (Nat × CC) → EX) → EX := List.rec (motive := fun _ => Nat → (List (Nat × CC) → EX) → EX) (fun n K => backK H (Nat.sub H.n n) n K) (fun c _ ih n K => hgK H c fun x => ih n fun r => K ((c, x) :: r)) idx

/-! ### code -/
/-- What stands ahead of each operation by the edges, as bits; operations that no edge orders may stand in either order. -/
structure Bf where
  b : List Nat
  ok : Bool
noncomputable def freeOf (b : List Nat) (n : Nat) : List (Nat × Nat) := (List.range n).flatMap fun j => ((List.range j).filter fun i => !(b.getD j 0).testBit i).map fun i => (i, j)
/-- Against the operations ahead of it, which no edge orders. -/
noncomputable def apartL (A : Array Oper) (o : Oper) (b : Nat) (l : List Oper) : Nat → Bool := List.rec (motive := fun _ => Nat → Bool) (fun _ => true) (fun x _ ih i => ifB (b.testBit i) (ih (Nat.succ i)) (ifB (Oper.apart A x o) (ih (Nat.succ i)) false)) l
noncomputable def apartA (A : Array Oper) (B : List Nat) (l : List Oper) : List Oper → Bool := List.rec (motive := fun _ => List Oper → Bool) (fun _ => true) (fun o _ ih done => ifB (apartL A o (B.getD done.length 0) done 0) (ih (done ++ [o])) false) l
noncomputable def bfOf (ops : List Oper) : Bf := ⟨befL ops [], edgesOK ops && apartA ops.toArray (befL ops []) ops []⟩
noncomputable def wnC (wr : List (Nat × CC)) : List Nat := List.rec (motive := fun _ => List Nat) [] (fun x _ ih => x.1 :: ih) wr
/-- Which operation, what it read and wrote. -/
structure Ft where
  i : Nat
  rd : List Nat
  wr : List Nat
noncomputable def anyN (f : Nat → Bool) (l : List Nat) : Bool := List.rec (motive := fun _ => Bool) false (fun x _ ih => ifB (f x) true ih) l
noncomputable def memN (l : List Nat) (c : Nat) : Bool := anyN (fun x => Nat.beq x c) l
noncomputable def meets (x y : Ft) : Bool := anyN (fun c => ifB (memN y.wr c) true (memN y.rd c)) x.wr
noncomputable def pairOK (b : List Nat) (x y : Ft) : Bool := ifB (isNil x.wr && isNil y.wr) true (ifB ((b.getD y.i 0).testBit x.i) true (ifB (meets x y) false (!meets y x)))
noncomputable def allOK (b : List Nat) (y : Ft) (l : List Ft) : Bool := List.rec (motive := fun _ => Bool) true (fun x _ ih => ifB (pairOK b x y) ih false) l
noncomputable def ftOK (b : List Nat) (l : List Ft) : Bool := List.rec (motive := fun _ => Bool) true (fun y r ih => ifB (allOK b y r) ih false) l
noncomputable def drDone (ops : List Oper) (fp : List Ft) : Bool := Bf.rec (motive := fun _ => Bool) (fun b ok => ifB ok (ftOK b fp) false) (bfOf ops)
noncomputable def upFrom (n : Nat) : Nat → List Nat := Nat.rec (motive := fun _ => Nat → List Nat) (fun _ => []) (fun _ ih k => k :: ih (Nat.succ k)) n
noncomputable def pushF (i : Nat) (rd wr : List Nat) (l : List Ft) : List Ft := ifB (isNil rd && isNil wr) l (⟨i, rd, wr⟩ :: l)
structure FI where
  nt : Nat
  rs : List ResultVar
abbrev Rc := FI → List It → N3 → CH → EX
abbrev Rj := List It → N3 → CH → EX
structure FB where
  g : Rc → Rj → N3 → CH → EX
structure EB where
  g : Rc → Rj → List Ft → N3 → CH → EX
noncomputable def goB (b : FB) (rc : Rc) (rj : Rj) (H : CH) (t : N3) : EX := FB.rec (motive := fun _ => EX) (fun g => g rc rj t H) b
noncomputable def goE (b : EB) (rc : Rc) (rj : Rj) (fp : List Ft) (H : CH) (t : N3) : EX := EB.rec (motive := fun _ => EX) (fun g => g rc rj fp t H) b
noncomputable def targsK (l : List SV) : Nat → N3 → (N3 → EX) → EX := List.rec (motive := fun _ => Nat → N3 → (N3 → EX) → EX) (fun _ t K => K t) (fun x _ ih k t K => tsetK k x t fun t => forceN (Nat.succ k) fun k => ih k t K) l
inductive FnB where
  | no
  | fn (fi : FI) (c : Code)
noncomputable def fnB (P : Program) (f : Nat) : FnB := match P.funcs[f]? with
  | some fn => match fn.body with
    | some c => ifB (Nat.ble fn.ntmps 512 && !(fn.name == "runtime.NumGoroutine")) (.fn ⟨fn.ntmps, fn.results.toList⟩ c) .no
    | none => .no
  | none => .no
noncomputable def callK (P : Program) (rc : Rc) (f : Nat) (args : List SV) (H : CH) : EX := FnB.rec (motive := fun _ => EX) (.bad "no function")
  (fun fi c => ifB (Nat.ble (llen args) fi.nt) (targsK args 0 u3 fun t => rc fi [.code c] t H) (.bad "args")) (fnB P f)
noncomputable def onRet (x : EX) (k : SV → CH → EX) : EX := EX.rec (motive := fun _ => EX) (fun s H => k s H) (fun w => .bad w) (fun _ _ _ => .bad "stop") (fun a b => .drw a b) x
noncomputable def ltAll (n : Nat) (l : List Nat) : Bool := List.rec (motive := fun _ => Bool) true (fun c _ ih => ifB (Nat.blt c n) ih false) l
noncomputable def callD (P : Program) (rc : Rc) (f : Nat) (args : List SV) (H : CH) (acc idx : List Nat) (k : SV → List (Nat × CC) → EX) : EX :=
  ifB (ltAll H.n acc) (subK H (fun t => onRet (callK P rc f args ⟨H.n, t⟩) fun s H1 => ifB (Nat.ble H1.n 262143) (backL H1 idx H.n fun wr => k s wr) (.bad "callD: room")) idx z6) (.bad "callD: idx")
inductive CB where
  | call (f : N3 → (SV → EX) → EX) (args : List Operand)
  | op
noncomputable def isCall (nt : Nat) (o : Op) : CB := match o with
  | .call c => match c.callee with
    | .value f => GB.rec (motive := fun _ => CB) (fun g => .call g c.args.toList) (gb nt f)
    | _ => .op
  | _ => .op
noncomputable def ko1 (P : Program) (ty : Ty) (nt : Nat) (o : Oper) (next : FB) : FB := match isCall nt o.op with
  | .call gf args => SB.rec (motive := fun _ => FB) (fun s => ⟨fun rc rj t H => gf t fun f => onFn f fun f caps => gvsK nt t args fun l => onRet (callK P rc f (l ++ caps) H) fun v H' => s v t (goB next rc rj H')⟩) (sb nt o.dst)
  | .op => SB.rec (motive := fun _ => FB) (fun s => OB.rec (motive := fun _ => FB) (fun g => ⟨fun rc rj t H => g (fun v _ wr => hwK wr (fun H' => s v t (goB next rc rj H')) H) t H⟩) (oOp nt ty o.op)) (sb nt o.dst)
inductive GrB where
  | no
  | bad
  | g (d : Nat) (b : Bool)
noncomputable def grB (all : List Oper) (o : Oper) : GrB := match o.guard with
  | none => .no
  | some (j, b) => match nth all j with
    | some oj => match oj.dst with
      | some d => .g d b
      | none => .bad
    | none => .bad
noncomputable def ko (P : Program) (ty : Ty) (nt : Nat) (all : List Oper) (o : Oper) (next : FB) : FB := match grB all o with
  | .no => ko1 P ty nt o next
  | .bad => ⟨fun _ _ _ _ => .bad "guard"⟩
  | .g d b => FB.rec (motive := fun _ => FB) (fun main => SB.rec (motive := fun _ => FB) (fun s => ⟨fun rc rj t H => gvK nt (.tmp d) t fun x => onG x (fun e => ifB (bEq e b) (main rc rj t H) (s undefS t (goB next rc rj H))) (s undefS t (goB next rc rj H))⟩) (sb nt o.dst)) (ko1 P ty nt o next)
noncomputable def kl (P : Program) (ty : Ty) (nt : Nat) (all : List Oper) (l : List Oper) (k : FB) : FB := List.rec (motive := fun _ => FB) k (fun o _ ih => ko P ty nt all o ih) l

noncomputable def bfB (all : List Oper) (i : Nat) : Nat := Bf.rec (motive := fun _ => Nat) (fun b _ => b.getD i 0) (bfOf all)
/-- Without the names that operations ahead of it touched, which no edge orders. -/
noncomputable def lessF (b : Nat) (fp : List Ft) (idx : List Nat) : List Nat := List.rec (motive := fun _ => List Nat → List Nat) (fun idx => idx) (fun x _ ih idx => ifB (b.testBit x.i) (ih idx) (ih (List.filter (fun c => !memN x.wr c) idx))) fp idx
noncomputable def eo1 (P : Program) (ty : Ty) (nt i : Nat) (all : List Oper) (o : Oper) (next : EB) : EB := match isCall nt o.op with
  | .call gf args => SB.rec (motive := fun _ => EB) (fun s => ⟨fun rc rj fp t H => gf t fun f => onFn f fun f caps => gvsK nt t args fun l => reachK H (fun acc => callD P rc f (l ++ caps) H acc (lessF (bfB all i) fp acc) fun v wr => hwK wr (fun H' => s v t (goE next rc rj (pushF i [] (wnC wr) fp) H')) H) 100000 (namesL (l ++ caps) []) []⟩) (sb nt o.dst)
  | .op => SB.rec (motive := fun _ => EB) (fun s => OB.rec (motive := fun _ => EB) (fun g => ⟨fun rc rj fp t H => g (fun v rd wr => hwK wr (fun H' => s v t (goE next rc rj (pushF i rd (wnC wr) fp) H')) H) t H⟩) (oOp nt ty o.op)) (sb nt o.dst)
noncomputable def eo (P : Program) (ty : Ty) (nt i : Nat) (all : List Oper) (o : Oper) (next : EB) : EB := match grB all o with
  | .no => eo1 P ty nt i all o next
  | .bad => ⟨fun _ _ _ _ _ => .bad "guard"⟩
  | .g d b => EB.rec (motive := fun _ => EB) (fun main => SB.rec (motive := fun _ => EB) (fun s => ⟨fun rc rj fp t H => gvK nt (.tmp d) t fun x => onG x (fun e => ifB (bEq e b) (main rc rj fp t H) (s undefS t (goE next rc rj fp H))) (s undefS t (goE next rc rj fp H))⟩) (sb nt o.dst)) (eo1 P ty nt i all o next)
noncomputable def el (P : Program) (ty : Ty) (nt : Nat) (all : List Oper) (l : List Oper) (k : FB) : Nat → EB := List.rec (motive := fun _ => Nat → EB) (fun _ => ⟨fun rc rj fp t H => ifB (drDone all fp) (goB k rc rj H t) (.drw all (fp.map fun f => (f.i, f.rd, f.wr)))⟩) (fun o _ ih i => eo P ty nt i all o (ih (Nat.succ i))) l

noncomputable def resK (ty : Ty) (nt : Nat) (t : N3) (H : CH) (l : List ResultVar) : (List SV → EX) → EX := List.rec (motive := fun _ => (List SV → EX) → EX) (fun k => k [])
  (fun x _ ih k => match x with
    | .tmp n => gvK nt (.tmp n) t fun v => ih fun r => k (v :: r)
    | .cell a T => ifB (okTy (ty T)) (gvK nt (.tmp a) t fun x => onA x (ldP (ty T).sz (ty T).agg (fun v _ _ => ih fun r => k (v :: r)) H) (fun _ _ _ => .bad "result: of what")) (.bad "result")) l
noncomputable def retL (H : CH) (l : List SV) : EX := match l with
  | [s] => .ret s H
  | l => .ret (.t l) H
noncomputable def fin (ty : Ty) (fi : FI) : FB := FI.rec (motive := fun _ => FB) (fun nt rs => ⟨fun _ _ t H => resK ty nt t H rs (retL H)⟩) fi
/-- The run's next stretch, up to a loop's end or a call. -/
noncomputable def kk (P : Program) (ty : Ty) (fi : FI) (m : Nat) : List It → FB := Nat.rec (motive := fun _ => List It → FB) (fun _ => ⟨fun _ _ _ _ => .bad "long"⟩) (fun _ ih k => match k with
  | [] => fin ty fi
  | .blk _ :: k => ⟨fun rc rj t H => rj k t H⟩
  | .lp c :: k => ⟨fun rc rj t H => rj (.code c :: .lp c :: k) t H⟩
  | .code c :: k => match c with
    | .skip => ih k
    | .seq a b => ih (.code a :: .code b :: k)
    | .block id c => ih (.code c :: .blk id :: k)
    | .loop c => ⟨fun rc rj t H => rj (.code c :: .lp c :: k) t H⟩
    | .exit id => match xexit id k with
      | some k' => ⟨fun rc rj t H => rj k' t H⟩
      | none => ⟨fun _ _ _ _ => .bad "exit"⟩
    | .cond c a b => GB.rec (motive := fun _ => FB) (fun gc => ⟨fun rc rj t H => gc t fun x => onB x fun e => Bool.rec (motive := fun _ => EX) (rj (.code b :: k) t H) (rj (.code a :: k) t H) e⟩) (gb fi.nt c)
    | .ret => fin ty fi
    | .region _ ops dr => ifB dr (EB.rec (motive := fun _ => FB) (fun g => ⟨fun rc rj t H => g rc rj [] t H⟩) (el P ty fi.nt ops.toList ops.toList (ih k) 0)) (kl P ty fi.nt ops.toList ops.toList (ih k))
    | _ => ⟨fun _ _ _ _ => .bad "code"⟩) m
noncomputable def run (P : Program) (ty : Ty) (n : Nat) : Rc := Nat.rec (motive := fun _ => Rc) (fun _ _ _ _ => .bad "fuel") (fun _ ih fi k t H => goB (kk P ty fi 100000 k) ih (ih fi) H t) n
noncomputable def callX (P : Program) (ty : Ty) (n : Nat) (f : Nat) (args : List SV) (H : CH) : EX := callK P (run P ty n) f args H
/-- Does the call, on no memory, end with true? -/
noncomputable def saysTrue (P : Program) (ty : Ty) (n : Nat) (f : Nat) : Bool := EX.rec (motive := fun _ => Bool) (fun s _ => match s with | .c (.b b) => b | _ => false) (fun _ => false) (fun _ _ _ => false) (fun _ _ => false) (callX P ty n f [] ⟨0, z6⟩)
end Go.Proofs.Ytladpdndjcgebaa.Kx

