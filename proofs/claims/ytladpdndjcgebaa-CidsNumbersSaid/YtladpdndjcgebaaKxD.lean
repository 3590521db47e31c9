/- The machine's operations are the symbolic machine's (1): values. -/
import Derived.Test.YtladpdndjcgebaaKxC
namespace Go.Proofs.Ytladpdndjcgebaa.Kx
set_option linter.unusedVariables false
open Go Go.Proofs.Ytladpdndjcgebaa.Sx

/-- An operation of the machine: what it comes to is what the operation does, whatever else there is. -/
def OBOK (P : Program) (o : Oper) (nt : Nat) (g : KK → N3 → CH → EX) : Prop := ∀ K t H s H', H.n ≤ 262143 → g K t H = .ret s H' →
  ∃ v rd wr, OpOK P o (tl nt t) (hl H) v rd (denW wr) ∧ WrOK H.n wr ∧ K v rd wr = .ret s H'

section
variable {P : Program} {ty : Ty} {o : Oper} {nt : Nat}

theorem via {p : Prop} (hT : TyOK P ty) {K : KK} {t : N3} {H H' : CH} {s v : SV} {rd : List Nat} {wr : List (Nat × CC)} (h : opS ty o (tl nt t) (hl H) = .ok p v rd (denW wr)) (hp : p) (hw : WrOK H.n wr) (hK : K v rd wr = .ret s H') :
    ∃ v rd wr, OpOK P o (tl nt t) (hl H) v rd (denW wr) ∧ WrOK H.n wr ∧ K v rd wr = .ret s H' := ⟨v, rd, wr, ops_sound hT h hp, hw, hK⟩

/-! ### ints -/
theorem wrapU_eq (m : Nat) (hm : 0 < m) (x : Int) : wrapU m x = x % (m : Int) := by
  cases x with
  | ofNat n => rfl
  | negSucc n =>
    show (Int.ofNat (m - 1 - n % m)) = _
    rw [Int.negSucc_emod n (by omega : (0 : Int) < (m : Int))]
    have := Nat.mod_lt n hm
    simp only [Int.ofNat_eq_natCast]
    omega
theorem sgnd_eq (h m n : Nat) (hn : n < m) : sgnd h m n = if n < h then (n : Int) else (n : Int) - (m : Int) := by
  unfold sgnd
  rw [ifB_eq]
  simp only [Nat.blt_eq]
  split
  · rfl
  · show Int.negSucc (m - 1 - n) = _
    rw [Int.negSucc_eq]
    omega
theorem wrapS_eq (h m : Nat) (hm : 0 < m) (x : Int) : wrapS h m x = if x % (m : Int) < (h : Int) then x % (m : Int) else x % (m : Int) - (m : Int) := by
  have hx : ∃ k : Nat, k < m ∧ x % (m : Int) = (k : Int) ∧ wrapS h m x = sgnd h m k := by
    cases x with
    | ofNat n => exact ⟨n % m, Nat.mod_lt _ hm, rfl, rfl⟩
    | negSucc n =>
      have := Nat.mod_lt n hm
      refine ⟨m - 1 - n % m, by omega, ?_, rfl⟩
      rw [Int.negSucc_emod n (by omega : (0 : Int) < (m : Int))]
      omega
  obtain ⟨k, h1, h2, h3⟩ := hx
  rw [h3, h2, sgnd_eq h m k h1]
  by_cases hk : k < h
  · rw [if_pos hk, if_pos (by omega)]
  · rw [if_neg hk, if_neg (by omega)]
theorem cwrap_eq (k : IntKind) (x : Int) : cwrap k x = k.wrap x := by
  cases k
  · show wrapS 128 256 x = _; rw [wrapS_eq _ _ (by omega)]; simp [IntKind.wrap, IntKind.bits, IntKind.signed]; omega
  · show wrapS 32768 65536 x = _; rw [wrapS_eq _ _ (by omega)]; simp [IntKind.wrap, IntKind.bits, IntKind.signed]; omega
  · show wrapS 2147483648 4294967296 x = _; rw [wrapS_eq _ _ (by omega)]; simp [IntKind.wrap, IntKind.bits, IntKind.signed]; omega
  · show wrapS 9223372036854775808 18446744073709551616 x = _; rw [wrapS_eq _ _ (by omega)]; simp [IntKind.wrap, IntKind.bits, IntKind.signed]; omega
  · show wrapU 256 x = _; rw [wrapU_eq _ (by omega)]; simp [IntKind.wrap, IntKind.bits, IntKind.signed]
  · show wrapU 65536 x = _; rw [wrapU_eq _ (by omega)]; simp [IntKind.wrap, IntKind.bits, IntKind.signed]
  · show wrapU 4294967296 x = _; rw [wrapU_eq _ (by omega)]; simp [IntKind.wrap, IntKind.bits, IntKind.signed]
  · show wrapU 18446744073709551616 x = _; rw [wrapU_eq _ (by omega)]; simp [IntKind.wrap, IntKind.bits, IntKind.signed]
theorem intK_eq (k : IntKind) (x : Int) (K : KK) : intK k x K = K (.c (.i k x)) [] [] := by
  cases x with
  | ofNat n => exact forceN_eq n fun n => K (.c (.i k (.ofNat n))) [] []
  | negSucc n => exact forceN_eq n fun n => K (.c (.i k (.negSucc n))) [] []
theorem intW_eq (k : IntKind) (x : Int) (K : KK) : intW k x K = K (.c (.i k (k.wrap x))) [] [] := by rw [intW, intK_eq, cwrap_eq]
theorem cbool_eq (b : Bool) (K : KK) : cbool b K = K (.c (.b b)) [] [] := by cases b <;> rfl
theorem kEq_eq {k j : IntKind} (h : kEq k j = true) : k = j := by
  unfold kEq at h
  cases k <;> cases j <;> first | rfl | (exact absurd h (by decide))
theorem ceq_eq (a b : Int) : ceq a b = decide (a = b) := by
  cases a with
  | ofNat m =>
    cases b with
    | ofNat n => show Nat.beq m n = _; rw [Bool.eq_iff_iff, Nat.beq_eq]; simp; omega
    | negSucc n => rfl
  | negSucc m =>
    cases b with
    | ofNat n => rfl
    | negSucc n => show Nat.beq n m = _; rw [Bool.eq_iff_iff, Nat.beq_eq]; simp; omega
theorem cle_eq (a b : Int) : cle a b = decide (a ≤ b) := by
  cases a with
  | ofNat m =>
    cases b with
    | ofNat n => show Nat.ble m n = _; rw [Bool.eq_iff_iff, Nat.ble_eq]; simp
    | negSucc n => show false = _; rw [eq_comm, decide_eq_false_iff_not, Int.negSucc_eq]; simp only [Int.ofNat_eq_natCast]; omega
  | negSucc m =>
    cases b with
    | ofNat n => show true = _; rw [eq_comm, decide_eq_true_iff, Int.negSucc_eq]; simp only [Int.ofNat_eq_natCast]; omega
    | negSucc n => show Nat.ble n m = _; rw [Bool.eq_iff_iff, Nat.ble_eq, decide_eq_true_iff, Int.negSucc_eq, Int.negSucc_eq]; omega
theorem clt_eq (a b : Int) : clt a b = decide (a < b) := by
  cases a with
  | ofNat m =>
    cases b with
    | ofNat n => show Nat.blt m n = _; rw [Bool.eq_iff_iff, Nat.blt_eq]; simp
    | negSucc n => show false = _; rw [eq_comm, decide_eq_false_iff_not, Int.negSucc_eq]; simp only [Int.ofNat_eq_natCast]; omega
  | negSucc m =>
    cases b with
    | ofNat n => show true = _; rw [eq_comm, decide_eq_true_iff, Int.negSucc_eq]; simp only [Int.ofNat_eq_natCast]; omega
    | negSucc n => show Nat.blt n m = _; rw [Bool.eq_iff_iff, Nat.blt_eq, decide_eq_true_iff, Int.negSucc_eq, Int.negSucc_eq]; omega
theorem toU_eq (m : Nat) (hm : 0 < m) (x : Int) : ((toU m x : Nat) : Int) = x % (m : Int) := by
  rw [← wrapU_eq m hm x]
  cases x <;> rfl
theorem kBits_eq (k : IntKind) : kBits k = k.bits := by cases k <;> rfl
theorem natI_eq (n : Int) : natI n = n.toNat := by cases n <;> rfl
theorem toU_bv (k : IntKind) (x : Int) : toU (Nat.pow 2 (kBits k)) x = (BitVec.ofInt k.bits x).toNat := by
  have h := toU_eq (Nat.pow 2 (kBits k)) (Nat.pow_pos (by omega)) x
  rw [BitVec.toNat_ofInt]
  rw [kBits_eq] at h ⊢
  have e : ((Nat.pow 2 k.bits : Nat) : Int) = ((2 ^ k.bits : Nat) : Int) := rfl
  rw [e] at h
  omega
theorem two_ret {f : IntKind → Int → Int → KK → EX} {K : KK} {x y s : SV} {H : CH} (h : two f K x y = .ret s H) : ∃ k a b, x = .c (.i k a) ∧ y = .c (.i k b) ∧ f k a b K = .ret s H := by
  obtain ⟨k, a, hx, h1⟩ := onI_ret h
  obtain ⟨j, b, hy, h2⟩ := onI_ret h1
  obtain ⟨hk, h3⟩ := ifB_ret h2
  obtain rfl := kEq_eq hk
  exact ⟨k, a, b, hx, hy, h3⟩
/-- One of the operations on two ints. -/
def IntOK (op : BinOp) (f : IntKind → Int → Int → KK → EX) : Prop := ∀ k a b K s H, f k a b K = .ret s H → ∃ p v, intBin op k a b = .ok p v [] [] ∧ p ∧ K v [] [] = .ret s H
theorem ok_int {T T2 : Nat} {op : BinOp} {x y : Operand} {f : IntKind → Int → Int → KK → EX} (hT : TyOK P ty) (ho : o.op = .binOp op T x y T2) (hs : op ≠ .shl ∧ op ≠ .shr) (hf : IntOK op f) : OBOK P o nt (oInt nt x y f).g := by
  intro K t H s H' hn h
  have h : (gb nt x).g t (fun x => (gb nt y).g t fun y => two f K x y) = .ret s H' := h
  simp only [gb_eq] at h
  obtain ⟨k, a, b, hx, hy, h⟩ := two_ret h
  obtain ⟨p, v, h1, h2, h3⟩ := hf k a b K s H' h
  refine via (p := p) (wr := []) hT ?_ h2 hn h3
  simp only [opS, ho, hx, hy]
  unfold opBin
  split
  · rename_i k' a' k2 b' e1 e2
    cases e1; cases e2
    split
    · exact absurd rfl hs.1
    · exact absurd rfl hs.2
    · rw [if_pos rfl]; exact h1
  · rename_i hno; exact (hno _ _ _ _ rfl rfl).elim

theorem int_add : IntOK .add fAdd := fun k a b K s H h => ⟨True, _, rfl, trivial, by rw [fAdd, intW_eq] at h; exact h⟩
theorem int_sub : IntOK .sub fSub := fun k a b K s H h => ⟨True, _, rfl, trivial, by rw [fSub, intW_eq] at h; exact h⟩
theorem int_mul : IntOK .mul fMul := fun k a b K s H h => ⟨True, _, rfl, trivial, by rw [fMul, intW_eq] at h; exact h⟩
theorem int_quo : IntOK .quo fQuo := fun k a b K s H h => by
  obtain ⟨h1, h⟩ := ifN_ret h
  rw [ceq_eq, decide_eq_false_iff_not] at h1
  exact ⟨_, _, rfl, h1, by rw [intW_eq] at h; exact h⟩
theorem int_rem : IntOK .rem fRem := fun k a b K s H h => by
  obtain ⟨h1, h⟩ := ifN_ret h
  rw [ceq_eq, decide_eq_false_iff_not] at h1
  exact ⟨_, _, rfl, h1, by rw [intK_eq] at h; exact h⟩
theorem int_and : IntOK .and (fBits Nat.land) := fun k a b K s H h => ⟨True, _, rfl, trivial, by
  rw [fBits, intW_eq, toU_bv, toU_bv] at h
  simpa [bits] using h⟩
theorem int_or : IntOK .or (fBits Nat.lor) := fun k a b K s H h => ⟨True, _, rfl, trivial, by
  rw [fBits, intW_eq, toU_bv, toU_bv] at h
  simpa [bits] using h⟩
theorem int_xor : IntOK .xor (fBits Nat.xor) := fun k a b K s H h => ⟨True, _, rfl, trivial, by
  rw [fBits, intW_eq, toU_bv, toU_bv] at h
  simpa [bits] using h⟩
theorem int_eql : IntOK .eql (fCmp ceq) := fun k a b K s H h => ⟨True, _, rfl, trivial, by rw [fCmp, cbool_eq, ceq_eq] at h; exact h⟩
theorem int_neq : IntOK .neq (fCmp fun a b => !ceq a b) := fun k a b K s H h => ⟨True, _, rfl, trivial, by rw [fCmp, cbool_eq, ceq_eq] at h; exact h⟩
theorem int_lss : IntOK .lss (fCmp clt) := fun k a b K s H h => ⟨True, _, rfl, trivial, by rw [fCmp, cbool_eq, clt_eq] at h; exact h⟩
theorem int_leq : IntOK .leq (fCmp cle) := fun k a b K s H h => ⟨True, _, rfl, trivial, by rw [fCmp, cbool_eq, cle_eq] at h; exact h⟩
theorem int_gtr : IntOK .gtr (fCmp fun a b => clt b a) := fun k a b K s H h => ⟨True, _, rfl, trivial, by rw [fCmp, cbool_eq, clt_eq] at h; exact h⟩
theorem int_geq : IntOK .geq (fCmp fun a b => cle b a) := fun k a b K s H h => ⟨True, _, rfl, trivial, by rw [fCmp, cbool_eq, cle_eq] at h; exact h⟩
end
end Go.Proofs.Ytladpdndjcgebaa.Kx
