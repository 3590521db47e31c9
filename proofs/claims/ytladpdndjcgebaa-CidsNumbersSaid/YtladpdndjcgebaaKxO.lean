/- Every operation of the machine, but a call of a function. -/
import Derived.Test.YtladpdndjcgebaaKxN
namespace Go.Proofs.Ytladpdndjcgebaa.Kx
set_option linter.unusedVariables false
open Go Go.Proofs.Ytladpdndjcgebaa.Sx

section
variable {P : Program} {ty : Ty} {o : Oper} {nt : Nat}
theorem ok_bad {f : KK → N3 → CH → String} : OBOK P o nt (fun K t H => .bad (f K t H)) := fun K t H s H' _ h => by cases h
theorem ok_bin {T T2 : Nat} {op : BinOp} {x y : Operand} (hT : TyOK P ty) (ho : o.op = .binOp op T x y T2) : OBOK P o nt (oBin nt (ty T) op x y).g := by
  unfold oBin
  rw [ifB_eq]
  split
  · cases op with
    | add => exact ok_int hT ho (by simp) int_add
    | sub => exact ok_int hT ho (by simp) int_sub
    | mul => exact ok_int hT ho (by simp) int_mul
    | quo => exact ok_int hT ho (by simp) int_quo
    | rem => exact ok_int hT ho (by simp) int_rem
    | and => exact ok_int hT ho (by simp) int_and
    | or => exact ok_int hT ho (by simp) int_or
    | xor => exact ok_int hT ho (by simp) int_xor
    | andNot => exact ok_int hT ho (by simp) int_andNot
    | eql => exact ok_int hT ho (by simp) int_eql
    | neq => exact ok_int hT ho (by simp) int_neq
    | lss => exact ok_int hT ho (by simp) int_lss
    | leq => exact ok_int hT ho (by simp) int_leq
    | gtr => exact ok_int hT ho (by simp) int_gtr
    | geq => exact ok_int hT ho (by simp) int_geq
    | shl => exact ok_sh hT ho
    | shr => exact ok_shr hT ho
  · rename_i hi
    simp only [Bool.not_eq_true] at hi
    have key : ∀ ng : Bool, o.op = .binOp (if ng then .neq else .eql) T x y T2 → OBOK P o nt (oEq nt (ty T) x y ng).g := by
      intro ng ho
      by_cases hs : ∃ e, (ty T).k = .sl e
      · obtain ⟨e, hs⟩ := hs
        exact ok_eqS ng hT hs ho
      · exact ok_eq ng hT hi (fun e he => hs ⟨e, he⟩) ho
    cases op with
    | eql => exact key false ho
    | neq => exact key true ho
    | _ => exact ok_bad
theorem ok_builtin {b : Builtin} {c : Call} (hT : TyOK P ty) (ho : o.op = .call c) (hc : c.callee = .builtin b) : OBOK P o nt (oBuiltin nt ty b c.args.toList c.argTypes.toList).g := by
  generalize ha : c.args.toList = args
  generalize hat : c.argTypes.toList = tys
  unfold oBuiltin
  split
  · exact ok_len hT ho hc ha hat
  · split
    · rename_i hk; exact ok_append hT (str := false) (by simp only [Bool.false_eq_true, if_false]; exact ⟨_, hk⟩) ho hc ha hat
    · rename_i hk; exact ok_append hT (str := true) (by simp only [if_true]; exact hk) ho hc ha hat
    · exact ok_bad
  · split
    · exact ok_copy hT ho hc ha hat
    · exact ok_copy hT ho hc ha hat
    · exact ok_bad
  · exact ok_delete hT ho hc ha hat
  · exact ok_clear hT ho hc ha hat
  · exact ok_mm false hT ho hc ha
  · exact ok_mm true hT ho hc ha
  · exact ok_bad
theorem oOp_ok (hT : TyOK P ty) : OBOK P o nt (oOp nt ty o.op).g := by
  unfold oOp
  split
  · rename_i ho; exact ok_val hT (.inl ho)
  · rename_i ho; exact ok_val hT (.inr ho)
  · rename_i ho; exact ok_pick hT ho
  · rename_i ho; exact ok_alloc hT ho
  · rename_i ho; exact ok_box hT ho
  · rename_i ho; exact ok_build hT ho
  · rename_i ho; exact ok_buildSlice hT ho
  · rename_i ho; exact ok_load hT ho
  · rename_i ho; exact ok_store hT ho
  · rename_i ho; exact ok_nil hT ho
  · rename_i ho; exact ok_bin hT ho
  · rename_i ho; exact ok_un hT ho
  · rename_i ho; exact ok_convert hT ho
  · rename_i first caps ho
    rw [ifB_eq]
    split
    · rename_i hf; exact ok_makeFunc hT ho hf
    · exact ok_bad
  · rename_i ho; exact ok_makeMap hT ho
  · rename_i ho; exact ok_makeSlice hT ho
  · rename_i ho; exact ok_slice hT ho
  · rename_i ho; exact ok_fieldAddr hT ho
  · rename_i ho; exact ok_field hT ho
  · rename_i ho; exact ok_indexAddr hT ho
  · rename_i ho; exact ok_index hT ho
  · rename_i ho; exact ok_lookup hT ho
  · rename_i ho; exact ok_mapUpdate hT (.inl ho)
  · rename_i ho; exact ok_mapUpdate hT (.inr ho)
  · rename_i ho; exact ok_mapEntry hT ho
  · rename_i ho; exact ok_entryStore hT ho
  · rename_i ho; exact ok_extract hT ho
  · rename_i c ho
    split
    · rename_i hc; exact ok_builtin hT ho hc
    · exact ok_bad
  · exact ok_bad
end
end Go.Proofs.Ytladpdndjcgebaa.Kx
