/- The machine's calls: a call over the whole memory; a call amid a draw, over what it can reach. -/
import Derived.Test.YtladpdndjcgebaaKxO
import Derived.Test.YtladpdndjcgebaaSxY
namespace Go.Proofs.Ytladpdndjcgebaa.Kx
set_option linter.unusedVariables false
open Go Go.Proofs.Ytladpdndjcgebaa.Sx

/-- What a run that ends so must fit. -/
structure EOK (P : Program) (ty : Ty) (fi : FI) (s : SV) (H' : CH) (E : FE) : Prop where
  hP : E.P = P
  hty : E.ty = ty
  f : P.funcs[E.f]? = some E.fn
  nt : E.fn.ntmps = fi.nt
  rs : E.fn.results.toList = fi.rs
  le : fi.nt ≤ 512
  post : E.Post = fun r chs => r = s ∧ chs = hl H'
def Ends (P : Program) (ty : Ty) (fi : FI) (k : List It) (t : N3) (H : CH) (s : SV) (H' : CH) : Prop :=
  H.n ≤ H'.n ∧ H'.n ≤ 262143 ∧ ∀ E, EOK P ty fi s H' E → RunsFrom E k (tl fi.nt t) (hl H)
def RcOK (P : Program) (ty : Ty) (rc : Rc) : Prop := ∀ fi k t H s H', fi.nt ≤ 512 → H.n ≤ 262143 → rc fi k t H = .ret s H' → Ends P ty fi k t H s H'

theorem onRet_ret {x : EX} {k : SV → CH → EX} {s : SV} {H : CH} (h : onRet x k = .ret s H) : ∃ s1 H1, x = .ret s1 H1 ∧ k s1 H1 = .ret s H := by
  cases x with
  | ret s1 H1 => exact ⟨s1, H1, rfl, h⟩
  | bad w => cases h
  | stop a b c => cases h
  | drw a b => cases h

/-! ### the callee's slots -/
noncomputable def targs : List SV → Nat → N3 → N3
  | [], _, t => t
  | x :: l, k, t => targs l (k + 1) (tset k x t)
theorem targsK_eq : ∀ (l : List SV) (k : Nat) (t : N3) (K : N3 → EX), targsK l k t K = K (targs l k t)
  | [], _, _, _ => rfl
  | x :: l, k, t, K => by
    show tsetK k x t (fun t => forceN (Nat.succ k) fun k => targsK l k t K) = _
    rw [tsetK_eq, forceN_eq, targsK_eq l]
    rfl
theorem tget_targs : ∀ (l : List SV) (k : Nat) (t : N3) (i : Nat), k + l.length ≤ 512 → i < 512 → tget i (targs l k t) = if k ≤ i ∧ i < k + l.length then l.getD (i - k) undefS else tget i t
  | [], k, t, i, _, _ => by rw [if_neg (by simp only [List.length_nil]; omega)]; rfl
  | x :: l, k, t, i, h, hi => by
    simp only [List.length_cons] at h ⊢
    rw [targs, tget_targs l (k + 1) _ i (by omega) hi, tget_tset hi (by omega)]
    by_cases h1 : i = k
    · subst h1
      rw [if_neg (by omega), if_pos rfl, if_pos (by omega), Nat.sub_self]
      rfl
    · by_cases h2 : k + 1 ≤ i ∧ i < k + 1 + l.length
      · rw [if_pos h2, if_pos (by omega), show i - k = (i - (k + 1)) + 1 by omega]
        rfl
      · rw [if_neg h2, if_neg h1, if_neg (by omega)]
theorem padS_get : ∀ (n i : Nat), (padS n)[i]? = if i < n then some undefS else none
  | 0, i => by simp [padS]
  | n + 1, 0 => by simp [padS]
  | n + 1, i + 1 => by simp [padS, padS_get n i]
theorem tl_targs {l : List SV} {nt : Nat} (h : l.length ≤ nt) (hn : nt ≤ 512) : tl nt (targs l 0 u3) = l ++ padS (nt - l.length) := by
  apply List.ext_getElem?
  intro i
  simp only [tl, List.getElem?_map, rg]
  by_cases hi : i < nt
  · rw [if_pos hi, Option.map_some, tget_targs l 0 u3 i (by omega) (by omega)]
    by_cases h1 : i < l.length
    · rw [if_pos (by omega), List.getElem?_append_left h1, Nat.sub_zero, List.getD_eq_getElem?_getD, List.getElem?_eq_getElem h1]
      rfl
    · rw [if_neg (by omega), List.getElem?_append_right (by omega), padS_get, if_pos (by omega), tget_u3]
  · rw [if_neg hi, List.getElem?_append_right (by omega), padS_get, if_neg (by omega)]; try rfl

section
variable {P : Program} {ty : Ty}

theorem llen_eq : ∀ l : List SV, llen l = l.length := by
  intro l; induction l with
  | nil => rfl
  | cons a l ih => simp [llen, ih]

theorem callK_spec (hT : TyOK P ty) (hm : P.follows .mixedOrders = true) {rc : Rc} (hrc : RcOK P ty rc) {f : Nat} {args : List SV} {H H1 : CH} {s : SV} (hn : H.n ≤ 262143) (h : callK P rc f args H = .ret s H1) :
    H.n ≤ H1.n ∧ H1.n ≤ 262143 ∧ Sx.Spec P f args (hl H) (fun r chs => r = s ∧ chs = hl H1) := by
  unfold callK at h
  cases hf : fnB P f with
  | no => rw [hf] at h; cases h
  | fn fi c =>
    rw [hf] at h
    have h : ifB (Nat.ble (llen args) fi.nt) (targsK args 0 u3 fun t => rc fi [.code c] t H) (.bad "args") = .ret s H1 := h
    obtain ⟨h1, h2⟩ := ifB_ret h
    rw [targsK_eq] at h2
    have hll := Nat.le_of_ble_eq_true h1
    rw [llen_eq] at hll
    unfold fnB at hf
    split at hf
    · rename_i fn hfn
      split at hf
      · rename_i c' hb
        rw [ifB_eq] at hf
        split at hf
        · rename_i hc
          simp only [Bool.and_eq_true, Bool.not_eq_true'] at hc
          have hle := Nat.le_of_ble_eq_true hc.1
          cases hf
          obtain ⟨e1, e2, e3⟩ := hrc _ _ _ _ _ _ hle hn h2
          refine ⟨e1, e2, spec_of hT hm hfn hc.2 hb rfl ?_⟩
          have := e3 ⟨P, ty, f, fn, hlen (hl H), fun r chs => r = s ∧ chs = hl H1⟩ ⟨rfl, rfl, hfn, rfl, rfl, hle, rfl⟩
          rw [tl_targs hll hle] at this
          exact this
        · cases hf
      · cases hf
    · cases hf

/-- The call enters the function. -/
theorem call_enter {o : Oper} {c : Call} {g : Operand} {f : Nat} {caps : List SV} {tm : List SV} (hE : Entered P f) (ho : o.op = .call c) (hc : c.callee = .value g) (hev : ev tm g = .fn f caps) {ρ : Env} {hP : HL} {a : Act} (w : World)
    (hop : ∀ x ∈ o.op.operands, (ev tm x).is ρ hP (a.eval x)) : ∃ vs : List Value, SV.isL ρ hP (evs tm c.args.toList ++ caps) vs ∧ (execOp a.eval o).run P w = .ok (.enter f vs.toArray) w := by
  obtain ⟨fn, hfn, hname, hbody⟩ := hE
  have hg := hop g (by simp [ho, Op.operands, Call.operands, hc])
  rw [hev] at hg
  obtain ⟨cs, hgv, hcs⟩ := hg
  have hargs := isL_append (evs_is (a := a) (l := c.args.toList) fun x hx => hop x (by simp only [ho, Op.operands, Call.operands, hc]; simp at hx ⊢; exact .inr hx)) hcs
  refine ⟨_, hargs, ?_⟩
  have he : c.args.map a.eval ++ cs = (c.args.toList.map a.eval ++ cs.toList).toArray := by apply Array.ext'; simp
  simp only [execOp, ho, resolve, hc, hgv, Deferred.ofValue, Sem.run_bind, Sem.run_pure, Result.andThen_ok, invoke, Array.empty_append, he]
  have hname' : ¬ fn.name = "runtime.NumGoroutine" := by simpa using hname
  have hbody' : ¬ fn.body = none := fun h => by rw [h] at hbody; cases hbody
  simp [callFunc, go_sem, hfn, hname', hbody']

/-- A call over the whole memory, in straight code. -/
theorem call_straight {E : FE} {f : Nat} {caps : List SV} {tm : List SV} {H H1 : List Ch} {s : SV} {o : Oper} {c : Call} {g : Operand} {all l : List Oper} {k : List It} (hw : wantS all tm o = some true) (ho : o.op = .call c) (hc : c.callee = .value g) (hev : ev tm g = .fn f caps)
    (hs : Sx.Spec E.P f (evs tm c.args.toList ++ caps) H (fun r chs => r = s ∧ chs = H1)) (hle : hlen H ≤ hlen H1) (h : MO E none all l k (put tm o.dst s) H1) : MO E none all (o :: l) k tm H := by
  intro s0 ρ own a w hst
  unfold wpList
  rw [wanted_of hst.tmps hw, if_pos rfl]
  refine .inl ?_
  obtain ⟨vs, h1, h2⟩ := call_enter hs.1 ho hc hev w (fun x _ => ev_is hst.tmps x)
  unfold Oper.wp
  rw [h2, Oper.upon_enter]
  refine Calls.mono (hs.2 ρ own w vs hst.fresh h1 hst.sat) fun e w' he => ?_
  obtain ⟨v, r, chs, ρ', own', rfl, ⟨rfl, rfl⟩, hsince, hfresh, hr, hsat⟩ := he
  have hle' : Env.le ρ ρ' := fun c l hcl => by
    rcases Nat.lt_or_ge c (hlen H) with hlt | hge
    · rw [hsince.loc c hlt]; exact hcl
    · rw [hst.fresh c hge] at hcl; cases hcl
  have h0 : HL.le (view own 0 w) (view own' 0 w') := hsince.sub 0 (by omega)
  refine h s0 ρ' own' _ w' ⟨⟨fun c hck => ?_, fun k hk => HL.le_trans (hst.since.sub k hk) (hsince.sub k hk), Nat.le_trans hst.since.size hsince.size, hsince.os.trans hst.since.os, hsince.tape.trans hst.since.tape, hsince.output.trans hst.since.output⟩, hfresh,
    put_tmps (SV.monoL hle' h0 _ _ hst.tmps) hr o.dst, by rw [put_defers]; exact hst.defers, hsat, Nat.le_trans hst.len hle⟩
  rw [hsince.loc c (Nat.lt_of_lt_of_le hck hst.len)]
  exact hst.since.loc c hck
end
end Go.Proofs.Ytladpdndjcgebaa.Kx
