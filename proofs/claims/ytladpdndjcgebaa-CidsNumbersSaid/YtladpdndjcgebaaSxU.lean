/- Every operation of the symbolic machine is sound. -/
import Derived.Test.YtladpdndjcgebaaSxP
namespace Go.Proofs.Ytladpdndjcgebaa.Sx
set_option linter.unusedVariables false
open Go

section
variable {P : Program} {ty : Ty} {o : Oper} {tm : List SV} {H : List Ch} {p : Prop} {s : SV} {rd : List Nat} {wr : List (Nat × Ch)}

theorem evs_cons : ∀ {l : List Operand} {x : SV} {r : List SV}, evs tm l = x :: r → ∃ y l', l = y :: l' ∧ ev tm y = x ∧ evs tm l' = r
  | [], _, _, h => by simp [evs] at h
  | y :: l, x, r, h => by
    simp only [evs, List.cons.injEq] at h
    exact ⟨y, l, rfl, h.1, h.2⟩
theorem evs_nil : ∀ {l : List Operand}, evs tm l = [] → l = []
  | [], _ => rfl
  | y :: l, h => by simp [evs] at h

theorem sound_call {c : Call} (hT : TyOK P ty) (ho : o.op = .call c) (h : opCall ty H tm c = .ok p s rd wr) (hp : p) : OpOK P o tm H s rd wr := by
  unfold opCall at h
  split at h
  · rename_i b hc
    split at h
    · rename_i x T ats hx ht
      obtain ⟨y, l, hl, rfl, hl2⟩ := evs_cons hx
      exact sound_len hT ho hc hl ht h
    · rename_i d x T S hx ht
      obtain ⟨y, l, hl, rfl, hl2⟩ := evs_cons hx
      obtain ⟨y2, l2, rfl, rfl, hl3⟩ := evs_cons hl2
      rw [evs_nil hl3] at hl
      split at h
      · rename_i e hk
        exact sound_append hT (.inl ⟨e, und_of hT hk rfl⟩) ho hc hl ht h hp
      · rename_i hk
        exact sound_append hT (.inr (und_of hT hk rfl)) ho hc hl ht h hp
      · cases h
    · rename_i d x T ats hx ht
      obtain ⟨y, l, hl, rfl, hl2⟩ := evs_cons hx
      obtain ⟨y2, l2, rfl, rfl, hl3⟩ := evs_cons hl2
      rw [evs_nil hl3] at hl
      exact sound_copy (S := 0) hT ho hc hl ht h hp
    · rename_i x k T ats hx ht
      obtain ⟨y, l, hl, rfl, hl2⟩ := evs_cons hx
      obtain ⟨y2, l2, rfl, rfl, hl3⟩ := evs_cons hl2
      rw [evs_nil hl3] at hl
      exact sound_delete hT ho hc hl ht h
    · rename_i x r hx
      obtain ⟨y, l, hl, rfl, hl2⟩ := evs_cons hx
      subst hl2
      exact sound_minmax (mx := false) ho hc hl h
    · rename_i x r hx
      obtain ⟨y, l, hl, rfl, hl2⟩ := evs_cons hx
      subst hl2
      exact sound_minmax (mx := true) ho hc hl h
    · cases h
  · split at h <;> cases h
  · cases h

theorem ops_sound (hT : TyOK P ty) (h : opS ty o tm H = .ok p s rd wr) (hp : p) : OpOK P o tm H s rd wr := by
  unfold opS at h
  split at h
  case h_1 => rename_i x ho; cases h; exact sound_val (.inl ho)
  case h_2 => rename_i x ho; cases h; exact sound_val (.inr ho)
  case h_3 => rename_i ho; exact sound_pick ho h
  case h_4 => rename_i ho; exact sound_alloc hT ho h
  case h_5 =>
    rename_i ho
    split at h
    · rename_i hf; cases h; exact sound_box ho hf
    · cases h
  case h_6 => rename_i ho; exact sound_build hT ho h
  case h_7 => rename_i ho; exact sound_buildSlice hT ho h
  case h_8 => rename_i ho; exact sound_load hT ho h hp
  case h_9 => rename_i ho; exact sound_store hT ho h hp
  case h_10 => rename_i ho; exact sound_nil ho h
  case h_11 => rename_i ho; exact sound_bin hT ho h hp
  case h_12 => rename_i ho; exact sound_un ho h
  case h_13 => rename_i ho; exact sound_convert hT ho h hp
  case h_14 =>
    rename_i ho
    split at h
    · rename_i hf; cases h; exact sound_makeFunc ho hf
    · cases h
  case h_15 => rename_i ho; exact sound_makeMap hT ho h
  case h_16 => rename_i ho; exact sound_makeSlice hT ho h hp
  case h_17 => rename_i ho; exact sound_slice hT ho h hp
  case h_18 => rename_i ho; exact sound_fieldAddr hT ho h hp
  case h_19 => rename_i ho; exact sound_field hT ho h
  case h_20 => rename_i ho; exact sound_indexAddr hT ho h hp
  case h_21 => rename_i ho; exact sound_index hT ho h hp
  case h_22 => rename_i ho; exact sound_lookup hT ho h
  case h_23 => rename_i ho; exact sound_mapUpdate hT (.inl ho) h
  case h_24 => rename_i ho; exact sound_mapUpdate hT (.inr ho) h
  case h_25 => rename_i ho; exact sound_mapEntry hT ho h
  case h_26 => rename_i ho; exact sound_entryStore ho h
  case h_27 => rename_i ho; exact sound_extract ho h
  case h_28 => rename_i ho; exact sound_call hT ho h hp
  case h_29 => cases h
end
end Go.Proofs.Ytladpdndjcgebaa.Sx
