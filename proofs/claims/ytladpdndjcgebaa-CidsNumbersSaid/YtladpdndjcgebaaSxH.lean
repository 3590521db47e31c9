/- The operations of the symbolic machine are sound (3): equality of values made of ints and bools. -/
import Derived.Test.YtladpdndjcgebaaSxG
import Derived.ChangeKeysEq
import Derived.WideLaws
namespace Go.Proofs.Ytladpdndjcgebaa.Sx
set_option linter.unusedVariables false
open Go

def vEq : List Value → List Value → Option Bool
  | [], [] => some true
  | .int k a :: l, .int j b :: r => if k = j then match vEq l r with | some e => some (a == b && e) | none => none else none
  | _, _ => none

theorem vEq_append : ∀ {a a' b b' : List Value} {e : Bool}, a.length = a'.length → vEq (a ++ b) (a' ++ b') = some e → ∃ x y, vEq a a' = some x ∧ vEq b b' = some y ∧ e = (x && y)
  | [], [], b, b', e, _, h => ⟨true, e, rfl, h, by simp⟩
  | [], _ :: _, _, _, _, h, _ => by simp at h
  | _ :: _, [], _, _, _, h, _ => by simp at h
  | u :: a, u' :: a', b, b', e, hl, h => by
    simp only [List.cons_append] at h
    unfold vEq at h
    split at h
    · rename_i heq _; cases heq
    · rename_i k x l j y r h1 h2
      simp only [List.cons.injEq] at h1 h2
      obtain ⟨rfl, rfl⟩ := h1
      obtain ⟨rfl, rfl⟩ := h2
      split at h
      · rename_i hk
        subst hk
        split at h
        · rename_i e' he'
          simp only [Option.some.injEq] at h
          obtain ⟨x', y', h3, h4, rfl⟩ := vEq_append (by simpa using hl) he'
          exact ⟨(x == y) && x', y', by simp [vEq, h3], h4, by rw [← h, Bool.and_assoc]⟩
        · cases h
      · cases h
    · cases h

theorem eqL_vEq {ρ : Env} {hP : HL} : ∀ {l r : List SV} {vs us : List Value} {e : Bool}, eqL l r = some e → SV.isL ρ hP l vs → SV.isL ρ hP r us → vEq vs us = some e
  | [], [], vs, us, e, h, h1, h2 => by
    have h1 : vs = [] := h1
    have h2 : us = [] := h2
    subst h1; subst h2
    exact h
  | x :: l, y :: r, vs, us, e, h, h1, h2 => by
    obtain ⟨v, vs, rfl, hv, h1⟩ := h1
    obtain ⟨u, us, rfl, hu, h2⟩ := h2
    unfold eqL at h
    split at h
    · rename_i heq _; cases heq
    · rename_i k a l' j b r' e1 e2
      simp only [List.cons.injEq] at e1 e2
      obtain ⟨rfl, rfl⟩ := e1
      obtain ⟨rfl, rfl⟩ := e2
      have hv : v = .int k a := hv
      have hu : u = .int j b := hu
      subst hv; subst hu
      split at h
      · rename_i hk
        split at h
        · rename_i e' he'
          simp only [Option.some.injEq] at h
          simp [vEq, hk, eqL_vEq he' h1 h2, h]
        · cases h
      · cases h
    · cases h
  | [], _ :: _, _, _, _, h, _, _ => by simp [eqL] at h
  | _ :: _, [], _, _, _, h, _, _ => by simp [eqL] at h

def valOf (i : TI) (cs : List Value) : Value := match i.agg with
  | true => .agg cs.toArray
  | false => cs.headD undef

section
variable {P : Program} {ty : Ty}

theorem flat_known {n T : Nat} (h : flatOK P ty n T = true) : (ty T).k.isOther = false := by
  cases n with
  | zero => simp [flatOK] at h
  | succ n =>
    unfold flatOK at h
    cases hk : (ty T).k <;> rw [hk] at h <;> simp_all [TK.isOther]

theorem cellsOf_eq {T : Nat} (hT : TyAt P ty T) : P.cellsOf T = (ty T).sz := by
  obtain ⟨i, z, hi, hs, _⟩ := hT.info
  simp [Program.cellsOf, hi, hs]

theorem part_val {T off : Nat} (hT : TyAt P ty T) (ho : (ty T).k.isOther = false) (h1 : (ty T).agg = false → (ty T).sz = 1) (cs : List Value) (hl : off + (ty T).sz ≤ cs.length) (w : World) :
    (part T cs.toArray off).run P w = .ok (valOf (ty T) ((cs.drop off).take (ty T).sz)) w := by
  unfold part valOf
  simp only [Sem.run_bind, hT.agg_run ho, Result.andThen_ok]
  cases hag : (ty T).agg with
  | true =>
    simp only [if_true, Sem.run_bind, hT.size_run, Result.andThen_ok, Sem.run_pure]
    congr 2
    apply Array.ext'
    rw [Array.toList_extract, List.extract_eq_take_drop]
    simp
  | false =>
    have h2 := h1 hag
    rw [h2] at hl ⊢
    have hlt : off < cs.length := by omega
    have hd : (cs.drop off).take 1 = [cs[off]] := by
      rw [List.drop_eq_getElem_cons hlt, List.take_succ_cons, List.take_zero]
    rw [hd]
    simp [hlt]

theorem flat_size {n T : Nat} (h : flatOK P ty n T = true) : (ty T).agg = false → (ty T).sz = 1 := by
  intro ha
  cases n with
  | zero => simp [flatOK] at h
  | succ n =>
    unfold flatOK at h
    unfold TI.agg at ha
    cases hk : (ty T).k <;> rw [hk] at h ha <;> simp_all

theorem flat_info {n T : Nat} (hT : TyOK P ty) (h : flatOK P ty n T = true) : ∃ i, P.info? T = some i := by
  obtain ⟨i, z, hi, _⟩ := (hT T (flat_known h)).info
  exact ⟨i, hi⟩

/-- Equality of flat types' values, by their cells. -/
theorem flat_equal (hT : TyOK P ty) : ∀ (n T d : Nat), flatOK P ty n T = true → n ≤ d → ∀ (cx cy : List Value) (e : Bool) (w : World), cx.length = (ty T).sz → cy.length = (ty T).sz → vEq cx cy = some e →
    (Op.equalIn d T (valOf (ty T) cx) (valOf (ty T) cy)).run P w = .ok e w
  | 0, _, _, h, _, _, _, _, _, _, _, _ => by simp [flatOK] at h
  | n + 1, T, 0, _, hd, _, _, _, _, _, _, _ => by omega
  | n + 1, T, d + 1, h, hd, cx, cy, e, w, hx, hy, he => by
    have hk0 := flat_known h
    have ht := hT T hk0
    have hund := ht.und
    unfold flatOK at h
    cases hk : (ty T).k with
    | int k =>
      rw [hk] at h hund
      simp only [decide_eq_true_eq] at h
      have hu : P.underlying T = some (.int k) := hund
      have hag : (ty T).agg = false := by simp [TI.agg, hk]
      match cx, cy, hx.trans h, hy.trans h with
      | [u], [v], _, _ =>
        simp only [valOf, hag, List.headD_cons]
        unfold vEq at he
        split at he
        · rename_i heq _; cases heq
        · rename_i k1 a l j b r e1 e2
          simp only [List.cons.injEq] at e1 e2
          obtain ⟨rfl, rfl⟩ := e1
          obtain ⟨rfl, rfl⟩ := e2
          split at he
          · rename_i hkj
            subst hkj
            simp [vEq] at he
            subst he
            rw [run_equalIn_int w d T k1 k a b hu]
          · cases he
        · cases he
    | arr m e' =>
      rw [hk] at h hund
      simp only [Bool.and_eq_true, decide_eq_true_eq] at h
      have hu : P.underlying T = some (.array m e') := hund
      have hag : (ty T).agg = true := by simp [TI.agg, hk]
      obtain ⟨i, hi⟩ := flat_info hT h.1
      have hte := hT e' (flat_known h.1)
      simp only [valOf, hag]
      rw [run_equalIn_array w d cx.toArray cy.toArray hu hi, cellsOf_eq hte]
      have key : ∀ (q j : Nat) (e : Bool), j + q = m → vEq (cx.drop (j * (ty e').sz)) (cy.drop (j * (ty e').sz)) = some e →
          (Op.eqItems d e' (ty e').sz cx.toArray cy.toArray (List.range' j q)).run P w = .ok e w := by
        intro q
        induction q with
        | zero =>
          intro j e hj he
          have hjm : j = m := by omega
          subst hjm
          have hz1 : cx.drop (j * (ty e').sz) = [] := List.drop_eq_nil_of_le (by omega)
          have hz2 : cy.drop (j * (ty e').sz) = [] := List.drop_eq_nil_of_le (by omega)
          rw [hz1, hz2] at he
          simp [vEq] at he
          subst he
          simp [Op.eqItems]
        | succ q ih =>
          intro j e hj he
          have hle : (j + 1) * (ty e').sz ≤ m * (ty e').sz := Nat.mul_le_mul_right _ (by omega)
          rw [Nat.add_mul, Nat.one_mul] at hle
          rw [← List.take_append_drop (ty e').sz (cx.drop (j * (ty e').sz)), ← List.take_append_drop (ty e').sz (cy.drop (j * (ty e').sz))] at he
          obtain ⟨x, y, h1, h2, rfl⟩ := vEq_append (by simp; omega) he
          rw [List.drop_drop, List.drop_drop, show j * (ty e').sz + (ty e').sz = (j + 1) * (ty e').sz by rw [Nat.add_mul, Nat.one_mul]] at h2
          have hr := flat_equal hT n e' d h.1 (by omega) _ _ x w (by simp; omega) (by simp; omega) h1
          have hs := flat_size h.1
          simp only [List.range'_succ, Op.eqItems, Sem.run_bind]
          rw [part_val hte (flat_known h.1) hs cx (by omega) w]
          simp only [Result.andThen_ok]
          rw [part_val hte (flat_known h.1) hs cy (by omega) w]
          simp only [Result.andThen_ok, hr]
          cases x with
          | false => simp
          | true => simpa using ih (j + 1) y (by omega) h2
      rw [List.range_eq_range']
      exact key m 0 e (by omega) (by simpa using he)
    | st fs =>
      rw [hk] at h hund
      have hag : (ty T).agg = true := by simp [TI.agg, hk]
      obtain ⟨fa, hu, hfs⟩ := hund
      simp only [Bool.and_eq_true, Bool.not_eq_true', hu, List.all_eq_true] at h
      obtain ⟨hp, hall, htile⟩ := h
      have hfo : P.fieldsOf T = fa := by simp [Program.fieldsOf, hu]
      simp only [valOf, hag]
      rw [run_equalIn_struct w d T cx.toArray cy.toArray (by rw [hfo]; exact hu) hp, hfo]
      have key : ∀ (l : List Field) (fs : List (Nat × Nat)) (at_ : Nat) (e : Bool), l.map (fun f => (f.offset, f.type)) = fs → (∀ f ∈ l, (f.name != "_") = true ∧ flatOK P ty n f.type = true) →
          flatOK.tiles ty fs at_ (ty T).sz = true → vEq (cx.drop at_) (cy.drop at_) = some e → (Op.eqFields d cx.toArray cy.toArray l).run P w = .ok e w := by
        intro l
        induction l with
        | nil =>
          intro fs at_ e hm _ ht he
          simp at hm
          subst hm
          simp [flatOK.tiles] at ht
          subst ht
          have hz1 : cx.drop (ty T).sz = [] := List.drop_eq_nil_of_le (by omega)
          have hz2 : cy.drop (ty T).sz = [] := List.drop_eq_nil_of_le (by omega)
          rw [hz1, hz2] at he
          simp [vEq] at he
          subst he
          simp [Op.eqFields]
        | cons f l ih =>
          intro fs at_ e hm hall ht he
          simp only [List.map_cons] at hm
          subst hm
          simp only [flatOK.tiles, Bool.and_eq_true, decide_eq_true_eq] at ht
          obtain ⟨hoff, ht⟩ := ht
          obtain ⟨hn, hf⟩ := hall f (by simp)
          have hmono : ∀ (l : List (Nat × Nat)) (a b : Nat), flatOK.tiles ty l a b = true → a ≤ b := by
            intro l
            induction l with
            | nil => intro a b h; simp [flatOK.tiles] at h; omega
            | cons x l ih => intro a b h; obtain ⟨o, t⟩ := x; simp [flatOK.tiles] at h; have := ih _ _ h.2; omega
          have hle := hmono _ _ _ ht
          have htf := hT f.type (flat_known hf)
          rw [← List.take_append_drop (ty f.type).sz (cx.drop at_), ← List.take_append_drop (ty f.type).sz (cy.drop at_)] at he
          obtain ⟨x, y, h1, h2, rfl⟩ := vEq_append (by simp; omega) he
          rw [List.drop_drop, List.drop_drop] at h2
          have hr := flat_equal hT n f.type d hf (by omega) _ _ x w (by simp; omega) (by simp; omega) h1
          have hs := flat_size hf
          have hn' : f.name ≠ "_" := by simpa using hn
          simp only [Op.eqFields, if_pos hn', Sem.run_bind, hoff]
          rw [part_val htf (flat_known hf) hs cx (by omega) w]
          simp only [Result.andThen_ok]
          rw [part_val htf (flat_known hf) hs cy (by omega) w]
          simp only [Result.andThen_ok, hr]
          cases x with
          | false => simp
          | true => simpa using ih _ (at_ + (ty f.type).sz) y rfl (fun g hg => hall g (by simp [hg])) ht h2
      exact key fa.toList fs 0 e hfs (fun f hf => by have := hall f hf; simpa using this) htile (by simpa using he)
    | bool => rw [hk] at h; simp at h
    | str => rw [hk] at h; simp at h
    | ptr _ => rw [hk] at h; simp at h
    | sl _ => rw [hk] at h; simp at h
    | map _ _ => rw [hk] at h; simp at h
    | fn => rw [hk] at h; simp at h
    | other => rw [hk] at h; simp at h
end
end Go.Proofs.Ytladpdndjcgebaa.Sx
