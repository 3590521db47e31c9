/- The machine's operations are the symbolic machine's (2): values, cells, places. -/
import Derived.Test.YtladpdndjcgebaaKxD
namespace Go.Proofs.Ytladpdndjcgebaa.Kx
set_option linter.unusedVariables false
open Go Go.Proofs.Ytladpdndjcgebaa.Sx

section
variable {P : Program} {ty : Ty} {o : Oper} {nt : Nat}

theorem int_andNot : IntOK .andNot fAndNot := fun k a b K s H h => ⟨True, _, rfl, trivial, by
  rw [fAndNot, intW_eq, toU_bv, toU_bv] at h
  have e : (Nat.land (BitVec.ofInt k.bits a).toNat (Nat.sub (Nat.sub (Nat.pow 2 (kBits k)) 1) (BitVec.ofInt k.bits b).toNat)) = (BitVec.ofInt k.bits a &&& ~~~ BitVec.ofInt k.bits b).toNat := by
    rw [kBits_eq, BitVec.toNat_and, BitVec.toNat_not]
    rfl
  rw [e] at h
  exact h⟩
theorem ok_sh {T T2 : Nat} {x y : Operand} (hT : TyOK P ty) (ho : o.op = .binOp .shl T x y T2) : OBOK P o nt (oSh nt x y (fun a m => Int.mul a (.ofNat m)) true).g := by
  intro K t H s H' hn h
  have h : (gb nt x).g t (fun x => (gb nt y).g t fun y => shK _ true K x y) = .ret s H' := h
  simp only [gb_eq] at h
  obtain ⟨k, a, hx, h1⟩ := onI_ret h
  obtain ⟨j, b, hy, h2⟩ := onI_ret h1
  obtain ⟨hb, h3⟩ := ifB_ret h2
  rw [cle_eq, decide_eq_true_iff] at hb
  simp only [ifB_eq, if_true, intW_eq, natI_eq, kBits_eq] at h3
  refine via (p := 0 ≤ b) (wr := []) hT ?_ hb hn h3
  simp only [opS, ho, hx, hy]
  unfold opBin
  simp [Nat.min_def, denW]
theorem ok_shr {T T2 : Nat} {x y : Operand} (hT : TyOK P ty) (ho : o.op = .binOp .shr T x y T2) : OBOK P o nt (oSh nt x y (fun a m => Int.fdiv a (.ofNat m)) false).g := by
  intro K t H s H' hn h
  have h : (gb nt x).g t (fun x => (gb nt y).g t fun y => shK _ false K x y) = .ret s H' := h
  simp only [gb_eq] at h
  obtain ⟨k, a, hx, h1⟩ := onI_ret h
  obtain ⟨j, b, hy, h2⟩ := onI_ret h1
  obtain ⟨hb, h3⟩ := ifB_ret h2
  rw [cle_eq, decide_eq_true_iff] at hb
  simp only [ifB_eq, Bool.false_eq_true, if_false, intK_eq, natI_eq, kBits_eq] at h3
  refine via (p := 0 ≤ b) (wr := []) hT ?_ hb hn h3
  simp only [opS, ho, hx, hy]
  unfold opBin
  simp [Nat.min_def, denW]

theorem l8Eq_eq : ∀ (a b : List UInt8), l8Eq a b = (a == b)
  | [], [] => rfl
  | [], _ :: _ => rfl
  | _ :: _, [] => rfl
  | x :: a, y :: b => by
    show ifB (Nat.beq x.toNat y.toNat) (l8Eq a b) false = _
    rw [l8Eq_eq a b, ifB_eq, List.cons_beq_cons]
    by_cases h : x = y
    · subst h; simp [Nat.beq_refl]
    · have : Nat.beq x.toNat y.toNat = false := by
        rw [← Bool.not_eq_true, Nat.beq_eq]
        exact fun e => h (UInt8.toNat_inj.1 e)
      simp [this, h]
theorem svEqL_ret (ng : Bool) {K : KK} {s : SV} {H : CH} : ∀ {l r : List SV} (a : Bool), svEqL K ng l r a = .ret s H → ∃ e, eqL l r = some e ∧ K (.c (.b (if ng then !(a && e) else (a && e)))) [] [] = .ret s H
  | [], [], a, h => ⟨true, rfl, by
      have h : cbool (ifB ng (!a) a) K = .ret s H := h
      rw [cbool_eq] at h
      cases ng <;> simpa [ifB_eq] using h⟩
  | [], _ :: _, _, h => by cases h
  | _ :: _, [], _, h => by cases h
  | x :: l, y :: r, a, h => by
    have h : onI x (fun k m => onI y fun j n => ifB (kEq k j) (ifB (ceq m n) (svEqL K ng l r a) (svEqL K ng l r false)) (.bad "eq: kinds")) = .ret s H := h
    obtain ⟨k, m, hx, h1⟩ := onI_ret h
    obtain ⟨j, n, hy, h2⟩ := onI_ret h1
    obtain ⟨hk, h3⟩ := ifB_ret h2
    obtain rfl := kEq_eq hk
    subst hx hy
    rw [ifB_eq, ceq_eq] at h3
    by_cases hmn : m = n
    · subst hmn
      rw [if_pos (by simp)] at h3
      obtain ⟨e, he, hK⟩ := svEqL_ret ng a h3
      exact ⟨e, by simp [eqL, he], hK⟩
    · rw [if_neg (by simpa using hmn)] at h3
      obtain ⟨e, he, hK⟩ := svEqL_ret ng false h3
      exact ⟨false, by simp [eqL, he, hmn], by simpa using hK⟩
theorem llen_eq' (l : List SV) : llen l = l.length := llen_eq l
theorem isNilP_eq {v : Value} (h : isNilP v = true) : v = .pointer none := by
  unfold isNilP at h
  split at h
  · rfl
  · cases h
theorem onPtr_ret {x : SV} {kp kn : EX} {s : SV} {H : CH} (h : onPtr x kp kn = .ret s H) : ((∃ c o, x = .p c o) ∧ kp = .ret s H) ∨ (x = .c (.v (.pointer none)) ∧ kn = .ret s H) := by
  unfold onPtr at h
  split at h
  · exact .inl ⟨⟨_, _, rfl⟩, h⟩
  · obtain ⟨h1, h2⟩ := ifB_ret h
    exact .inr ⟨by rw [isNilP_eq h1], h2⟩
  · cases h
/-- What stands behind a comparison: its answer, or the other one. -/
theorem ok_eq {T T2 : Nat} {x y : Operand} (ng : Bool) (hT : TyOK P ty) (hi : isInt (ty T).k = false) (hsl : ∀ e, (ty T).k ≠ .sl e) (ho : o.op = .binOp (if ng then .neq else .eql) T x y T2) : OBOK P o nt (oEq nt (ty T) x y ng).g := by
  intro K t H s H' hn h
  have h : (gb nt x).g t (fun x => (gb nt y).g t fun y => eqK (ty T) ng K H x y) = .ret s H' := h
  simp only [gb_eq] at h
  have key : ∃ e, eqS (ty T) (ev (tl nt t) x) (ev (tl nt t) y) = some e ∧ K (.c (.b (if ng then !e else e))) [] [] = .ret s H' := by
    unfold eqK at h
    split at h
    · rename_i hk
      obtain ⟨a, hx, h1⟩ := onB_ret h
      obtain ⟨b, hy, h2⟩ := onB_ret h1
      rw [cbool_eq] at h2
      refine ⟨a == b, by simp [eqS, hx, hy, hk], ?_⟩
      cases ng <;> cases a <;> cases b <;> exact h2
    · rename_i hk
      obtain ⟨a, hx, h1⟩ := onS_ret h
      obtain ⟨b, hy, h2⟩ := onS_ret h1
      rw [cbool_eq, l8Eq_eq] at h2
      refine ⟨a == b, by simp [eqS, hx, hy, hk], ?_⟩
      cases ng <;> exact h2
    · rename_i e hk
      rcases onPtr_ret h with ⟨⟨c, o, hx⟩, h1⟩ | ⟨hx, h1⟩
      · rcases onPtr_ret h1 with ⟨_, h2⟩ | ⟨hy, h2⟩
        · cases h2
        · rw [cbool_eq] at h2
          exact ⟨false, by simp [eqS, hx, hy, hk], by cases ng <;> exact h2⟩
      · rcases onPtr_ret h1 with ⟨⟨c, o, hy⟩, h2⟩ | ⟨hy, h2⟩
        · rw [cbool_eq] at h2
          exact ⟨false, by simp [eqS, hx, hy, hk], by cases ng <;> exact h2⟩
        · rw [cbool_eq] at h2
          exact ⟨true, by simp [eqS, hx, hy, hk], by cases ng <;> exact h2⟩
    · rename_i e hk
      exact (hsl e hk).elim
    · obtain ⟨hq, h1⟩ := ifB_ret h
      obtain ⟨l, hx, h2⟩ := onAg_ret h1
      obtain ⟨r, hy, h3⟩ := onAg_ret h2
      obtain ⟨hz, h4⟩ := ifB_ret h3
      obtain ⟨e, he, hK⟩ := svEqL_ret ng true h4
      simp only [Bool.and_eq_true, Nat.beq_eq] at hq hz
      refine ⟨e, ?_, by simpa using hK⟩
      rw [hx, hy]
      simp only [eqS, hq.1, hq.2, hz.1, hz.2, beq_self_eq_true, Bool.and_self]
      exact he
  obtain ⟨e, he, hK⟩ := key
  refine via (p := True) (wr := []) hT ?_ trivial hn hK
  have hno : ∀ k a j b, ¬ (ev (tl nt t) x = .c (.i k a) ∧ ev (tl nt t) y = .c (.i j b)) := by
    rintro k a j b ⟨e1, e2⟩
    rw [e1, e2] at he
    simp [eqS] at he
  simp only [opS, ho]
  generalize ev (tl nt t) x = X at he hno ⊢
  generalize ev (tl nt t) y = Y at he hno ⊢
  unfold opBin
  split
  · exact (hno _ _ _ _ ⟨rfl, rfl⟩).elim
  · cases ng
    · simp only [Bool.false_eq_true, if_false] at ho ⊢
      rw [he]; rfl
    · simp only [if_true] at ho ⊢
      rw [he]; rfl
end
end Go.Proofs.Ytladpdndjcgebaa.Kx
