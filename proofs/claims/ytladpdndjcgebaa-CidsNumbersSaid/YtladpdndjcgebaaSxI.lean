/- The operations of the symbolic machine are sound (4): operators, conversions, lengths, parts put together. -/
import Derived.Test.YtladpdndjcgebaaSxH
import Derived.WalkSpells
import Derived.Laws.Cover3
namespace Go.Proofs.Ytladpdndjcgebaa.Sx
set_option linter.unusedVariables false
open Go

section
variable {P : Program} {ty : Ty} {o : Oper} {tm : List SV} {H : List Ch} {p : Prop} {s : SV} {rd : List Nat} {wr : List (Nat × Ch)}

theorem bool_is {ρ : Env} {hP : HL} {b : Bool} {v : Value} (h : (SV.c (.b b)).is ρ hP v) : v = .bool b := h
theorem str_is {ρ : Env} {hP : HL} {l : List UInt8} {v : Value} (h : (SV.c (.s l)).is ρ hP v) : v = .string ⟨l.toArray⟩ := h
theorem llen_eq : ∀ (l : List SV), llen l = l.length
  | [] => rfl
  | _ :: l => by simp [llen, llen_eq l]

theorem run_int {T : Nat} {op : BinOp} {x y : Operand} {k : IntKind} {a b : Int} {w : World} (h : intBin op k a b = .ok p s rd wr) (hp : p) (hsh : op ≠ .shl ∧ op ≠ .shr) :
    ∃ v, (do eqGuard op T x y (.int k a) (.int k b); binOp op T (.int k a) (.int k b) : Sem Value).run P w = .ok v w ∧ (∀ ρ hP, s.is ρ hP v) ∧ rd = [] ∧ wr = [] := by
  unfold intBin at h
  split at h
  all_goals cases h
  all_goals refine ⟨_, ?_, fun _ _ => rfl, rfl, rfl⟩
  all_goals simp only [eqGuard_at_int, binOp, ne_eq, not_true_eq_false, if_false, Sem.run_bind, Sem.run_pure, Result.andThen_ok, Op.intArith, Op.intCmp, intBits_and, intBits_or, intBits_xor]
  all_goals first
    | rfl
    | (simp only [Op.intDiv]; rw [if_neg hp]; rfl)

theorem und_of {T : Nat} {k : TK} (hT : TyOK P ty) (hk : (ty T).k = k) (ho : k.isOther = false) : TK.fits P T k := by
  have := (hT T (by rw [hk]; exact ho)).und
  rwa [hk] at this

theorem valOf_agg {i : TI} (h : i.agg = true) (cs : Array Value) : valOf i cs.toList = .agg cs := by simp [valOf, h]

theorem toList_mk (l : List UInt8) : (⟨l.toArray⟩ : ByteArray).toList = l := by rw [ByteArray.toList_eq]

/-- The values that 'eqS' compares are equal as it says; no guard stands in the way. -/
theorem eqS_run {T : Nat} (hT : TyOK P ty) {x y : SV} {e : Bool} (h : eqS (ty T) x y = some e) {ρ : Env} {hP : HL} {u v : Value} (hx : x.is ρ hP u) (hy : y.is ρ hP v) (w : World) (op : BinOp) (X Y : Operand) :
    (eqGuard op T X Y u v).run P w = .ok () w ∧ (binOp .eql T u v).run P w = .ok (.bool e) w ∧ (binOp .neq T u v).run P w = .ok (.bool (!e)) w := by
  unfold eqS at h
  split at h
  · rename_i a b
    split at h
    · rename_i hk
      simp only [Option.some.injEq] at h
      subst h
      have hx := bool_is hx; have hy := bool_is hy
      subst hx; subst hy
      have hu : P.underlying T = some .bool := und_of hT hk rfl
      exact ⟨by simp [eqGuard_at_bool], run_eql_bool w T a b hu, run_neq_bool w T a b hu⟩
    · cases h
  · rename_i a b
    split at h
    · rename_i hk
      simp only [Option.some.injEq] at h
      subst h
      have hx := str_is hx; have hy := str_is hy
      subst hx; subst hy
      refine ⟨by simp [eqGuard_at_string], ?_, ?_⟩ <;> simp [binOp, Op.stringOp, toList_mk]
    · cases h
  · rename_i l r
    split at h
    · rename_i hc
      simp only [Bool.and_eq_true, beq_iff_eq] at hc
      obtain ⟨⟨⟨heq, hag⟩, hl⟩, hr⟩ := hc
      obtain ⟨vs, rfl, hvs⟩ := hx
      obtain ⟨us, rfl, hus⟩ := hy
      have hk0 : (ty T).k.isOther = false := by
        unfold TI.agg at hag
        split at hag <;> simp_all [TK.isOther]
      have ht := hT T hk0
      obtain ⟨hf, hg⟩ := ht.flat heq
      have hv := eqL_vEq h hvs hus
      have hrun := flat_equal hT 8 T 10000 hf (by omega) vs.toList us.toList e w (by rw [isL_length hvs, ← hl, llen_eq]) (by rw [isL_length hus, ← hr, llen_eq]) hv
      rw [valOf_agg hag, valOf_agg hag] at hrun
      refine ⟨run_eqGuard_agg w op T X Y vs us hg, ?_, ?_⟩
      · rw [run_eql_struct, hrun]; rfl
      · rw [run_neq_struct, hrun]; rfl
    · cases h
  · rename_i C off
    split at h
    · rename_i t hk
      simp only [Option.some.injEq] at h
      subst h
      obtain ⟨L, _, rfl⟩ := hx
      obtain ⟨rfl, _⟩ := hy
      have hu : P.underlying T = some (.pointer t) := und_of hT hk rfl
      have h9 : ∀ d, (Op.equalIn (d + 1) T (.pointer (some ⟨L.blk, L.off + off, none⟩)) (.pointer none)).run P w = .ok false w := fun d => by simp [Op.equalIn, run_underlying hu]
      refine ⟨by cases op <;> rfl, ?_, ?_⟩ <;> (simp only [binOp]; simp [Op.equal, Op.maxDepth, h9 9999])
    · cases h
  · rename_i C off
    split at h
    · rename_i t hk
      simp only [Option.some.injEq] at h
      subst h
      obtain ⟨L, _, rfl⟩ := hy
      obtain ⟨rfl, _⟩ := hx
      have hu : P.underlying T = some (.pointer t) := und_of hT hk rfl
      have h9 : ∀ d, (Op.equalIn (d + 1) T (.pointer none) (.pointer (some ⟨L.blk, L.off + off, none⟩))).run P w = .ok false w := fun d => by simp [Op.equalIn, run_underlying hu]
      refine ⟨by cases op <;> rfl, ?_, ?_⟩ <;> (simp only [binOp]; simp [Op.equal, Op.maxDepth, h9 9999])
    · cases h
  · split at h
    · rename_i t hk
      simp only [Option.some.injEq] at h
      subst h
      obtain ⟨rfl, _⟩ := hx
      obtain ⟨rfl, _⟩ := hy
      have hu : P.underlying T = some (.pointer t) := und_of hT hk rfl
      have h9 : ∀ d, (Op.equalIn (d + 1) T (.pointer none) (.pointer none)).run P w = .ok true w := fun d => by simp [Op.equalIn, run_underlying hu]
      refine ⟨by cases op <;> rfl, ?_, ?_⟩ <;> (simp only [binOp]; simp [Op.equal, Op.maxDepth, h9 9999])
    · cases h
  · rename_i n1 c1 n2 c2
    split at h
    · rename_i t hk
      simp only [Option.some.injEq] at h
      subst h
      obtain ⟨rfl, _⟩ := hx
      obtain ⟨rfl, _⟩ := hy
      have hu : P.underlying T = some (.slice t) := und_of hT hk rfl
      have h9 : ∀ d, (Op.equalIn (d + 1) T (.slice none n1 c1) (.slice none n2 c2)).run P w = .ok true w := fun d => by simp [Op.equalIn, run_underlying hu]
      refine ⟨by cases op <;> rfl, ?_, ?_⟩ <;> (simp only [binOp]; simp [Op.equal, Op.maxDepth, h9 9999])
    · cases h
  · cases h

theorem sound_bin {T T2 : Nat} {op : BinOp} {x y : Operand} (hT : TyOK P ty) (ho : o.op = .binOp op T x y T2) (h : opBin ty op T (ev tm x) (ev tm y) = .ok p s rd wr) (hp : p) : OpOK P o tm H s rd wr := by
  have hopx : x ∈ o.op.operands := by simp [ho, Op.operands]
  have hopy : y ∈ o.op.operands := by simp [ho, Op.operands]
  unfold opBin at h
  split at h
  · rename_i k a j b hx hy
    have key : ∀ s', (∀ w, ∃ v, (do eqGuard op T x y (.int k a) (.int j b); binOp op T (.int k a) (.int j b) : Sem Value).run P w = .ok v w ∧ ∀ ρ hP, s'.is ρ hP v) → OpOK P o tm H s' [] [] := by
      intro s' hv
      refine OpOK.pure fun ρ own w c hop _ => ?_
      have h1 := hop x hopx; have h2 := hop y hopy
      rw [hx] at h1; rw [hy] at h2
      have h1 := int_is h1; have h2 := int_is h2
      obtain ⟨v, hr, hs⟩ := hv w
      refine ⟨v, ?_, hs _ _⟩
      simp only [execOp, ho, h1, h2]
      rw [Sem.run_bind, hr]
      rfl
    split at h
    · cases h
      refine key _ fun w => ⟨_, ?_, fun _ _ => rfl⟩
      have hb : ¬ b < 0 := by omega
      simp [eqGuard_shl, binOp, Op.shift, hb]
    · cases h
      refine key _ fun w => ⟨_, ?_, fun _ _ => rfl⟩
      have hb : ¬ b < 0 := by omega
      simp [eqGuard_shr, binOp, Op.shift, hb]
    · rename_i h1 h2
      split at h
      · rename_i hkj
        subst hkj
        obtain ⟨_, _, _, rfl, rfl⟩ := run_int (P := P) (T := T) (x := x) (y := y) (w := default) h hp ⟨h1, h2⟩
        refine key _ fun w => ?_
        obtain ⟨v, hr, hs, _⟩ := run_int (P := P) (T := T) (x := x) (y := y) (w := w) h hp ⟨h1, h2⟩
        exact ⟨v, hr, hs⟩
      · cases h
  · have key : ∀ (s' : SV) (e : Bool), eqS (ty T) (ev tm x) (ev tm y) = some e → (op = .eql ∧ s' = .c (.b e) ∨ op = .neq ∧ s' = .c (.b (!e))) → OpOK P o tm H s' [] [] := by
      intro s' e he hop'
      refine OpOK.pure fun ρ own w c hop _ => ?_
      obtain ⟨h1, h2, h3⟩ := eqS_run hT he (hop x hopx) (hop y hopy) w op x y
      rcases hop' with ⟨rfl, rfl⟩ | ⟨rfl, rfl⟩
      · exact ⟨.bool e, by simp only [execOp, ho]; rw [Sem.run_bind, Sem.run_bind, h1, Result.andThen_ok, h2]; rfl, rfl⟩
      · exact ⟨.bool (!e), by simp only [execOp, ho]; rw [Sem.run_bind, Sem.run_bind, h1, Result.andThen_ok, h3]; rfl, rfl⟩
    split at h
    · split at h
      · rename_i e he
        cases h
        exact key _ e he (.inl ⟨rfl, rfl⟩)
      · cases h
    · split at h
      · rename_i e he
        cases h
        exact key _ e he (.inr ⟨rfl, rfl⟩)
      · cases h
    · cases h

theorem sound_un {T : Nat} {op : UnOp} {x : Operand} (ho : o.op = .unOp op T x) (h : opUn op (ev tm x) = .ok p s rd wr) : OpOK P o tm H s rd wr := by
  have hopx : x ∈ o.op.operands := by simp [ho, Op.operands]
  unfold opUn at h
  split at h
  · rename_i e hx
    cases h
    refine OpOK.pure fun ρ own w c hop _ => ?_
    have h1 := hop x hopx
    rw [hx] at h1
    have h1 := bool_is h1
    exact ⟨.bool (!e), by simp [execOp, ho, h1, Op.unary], rfl⟩
  · rename_i k n hx
    cases h
    refine OpOK.pure fun ρ own w c hop _ => ?_
    have h1 := hop x hopx
    rw [hx] at h1
    have h1 := int_is h1
    exact ⟨.int k (k.wrap (0 - n)), by simp [execOp, ho, h1, Op.unary, Op.intArith], rfl⟩
  · cases h

theorem sound_makeFunc {f : Nat} {first caps : Array Operand} (ho : o.op = .makeFunc (.func f) first caps) (hf : first.isEmpty = true) : OpOK P o tm H (.fn f (evs tm caps.toList)) [] [] := by
  have hf' : first = #[] := by simpa using hf
  subst hf'
  refine OpOK.pure fun ρ own w c hop _ => ?_
  have key : ∀ l : List Operand, (∀ x ∈ l, x ∈ o.op.operands) → SV.isL ρ (view own 0 w) (evs tm l) (l.map c.eval) := by
    intro l
    induction l with
    | nil => intro _; rfl
    | cons x l ih => intro hl; exact ⟨_, _, rfl, hop x (hl x (by simp)), ih (fun y hy => hl y (by simp [hy]))⟩
  refine ⟨.func (.func f) #[] (caps.map c.eval), by simp [execOp, ho, Instr.makeFunc], ⟨_, rfl, ?_⟩⟩
  have := key caps.toList (fun x hx => by simp [ho, Op.operands]; simpa using hx)
  simpa using this
end
end Go.Proofs.Ytladpdndjcgebaa.Sx
