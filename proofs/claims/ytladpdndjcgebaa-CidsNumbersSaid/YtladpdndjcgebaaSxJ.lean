/- The operations of the symbolic machine are sound (5): values put together; what slices hold; lengths; conversions. -/
import Derived.Test.YtladpdndjcgebaaSxI
namespace Go.Proofs.Ytladpdndjcgebaa.Sx
set_option linter.unusedVariables false
open Go

section
variable {P : Program} {ty : Ty} {o : Oper} {tm : List SV} {H : List Ch} {p : Prop} {s : SV} {rd : List Nat} {wr : List (Nat × Ch)}

theorem PV.one {hP : HL} {q : PV} {u : Value} (h : q.is hP u) : u.oneCell' = true := by
  cases q with
  | i k n => have h : u = _ := h; subst h; rfl
  | b e => have h : u = _ := h; subst h; rfl
  | s l => have h : u = _ := h; subst h; rfl
  | v y => obtain ⟨rfl, h⟩ := h; exact h
  | ps sz n f => obtain ⟨A, cap, rfl, _⟩ := h; rfl
  | x => exact h
theorem cells_one {u : Value} (h : u.oneCell' = true) : u.cells = #[u] := by
  cases u <;> first | rfl | (simp [Value.oneCell'] at h)
theorem flat_one {ρ : Env} {hP : HL} : ∀ {l : List SV} {vs : List Value}, flat l = true → SV.isL ρ hP l vs → ∀ u ∈ vs, u.oneCell' = true
  | [], vs, _, h, u, hu => by have h : vs = [] := h; subst h; cases hu
  | x :: l, vs, hf, ⟨v, us, he, hx, hl⟩, u, hu => by
    subst he
    have hfl : flat l = true ∧ v.oneCell' = true := by
      cases x with
      | c q => exact ⟨by simpa [flat] using hf, PV.one (hP := hP) hx⟩
      | top => simp [flat] at hf
      | a _ => simp [flat] at hf
      | t _ => simp [flat] at hf
      | p c off => obtain ⟨_, _, rfl⟩ := hx; exact ⟨by simpa [flat] using hf, rfl⟩
      | q c i j => obtain ⟨_, _, rfl⟩ := hx; exact ⟨by simpa [flat] using hf, rfl⟩
      | pe n g => obtain ⟨_, _, rfl, _⟩ := hx; exact ⟨by simpa [flat] using hf, rfl⟩
      | sl c st len lim => obtain ⟨_, _, _, _, rfl, _⟩ := hx; exact ⟨by simpa [flat] using hf, rfl⟩
      | sc c off sz len cap => obtain ⟨_, _, _, rfl, _⟩ := hx; exact ⟨by simpa [flat] using hf, rfl⟩
      | m c => obtain ⟨_, _, rfl⟩ := hx; exact ⟨by simpa [flat] using hf, rfl⟩
      | st c => obtain ⟨_, _, rfl⟩ := hx; exact ⟨by simpa [flat] using hf, rfl⟩
      | fn f l => obtain ⟨_, rfl, _⟩ := hx; exact ⟨by simpa [flat] using hf, rfl⟩
    rcases List.mem_cons.1 hu with rfl | hu
    · exact hfl.2
    · exact flat_one hfl.1 hl u hu
theorem cells_is {ρ : Env} {hP : HL} {x : SV} {v : Value} (hf : flat (cellsOf x) = true) (h : x.is ρ hP v) : SV.isL ρ hP (cellsOf x) v.cells.toList ∧ ∀ u ∈ v.cells.toList, u.oneCell' = true := by
  have key : SV.isL ρ hP (cellsOf x) v.cells.toList := by
    cases hx : x with
    | a l => subst hx; obtain ⟨vs, rfl, hl⟩ := h; exact hl
    | _ =>
      subst hx
      have h1 : SV.isL ρ hP [_] [v] := ⟨v, [], rfl, h, rfl⟩
      have h2 := flat_one (by simpa [cellsOf] using hf) h1 v (by simp)
      rw [cells_one h2]
      exact h1
  exact ⟨key, flat_one hf key⟩

theorem lover_is {ρ : Env} {hP : HL} : ∀ {xs l r : List SV} {us vs : List Value}, lover xs l = some r → SV.isL ρ hP xs us → SV.isL ρ hP l vs → SV.isL ρ hP r (us ++ vs.drop us.length) ∧ us.length ≤ vs.length
  | [], l, r, us, vs, h, hu, hv => by
    have hu : us = [] := hu
    subst hu
    simp only [lover, Option.some.injEq] at h
    subst h
    simpa using hv
  | _ :: _, [], r, us, vs, h, _, _ => by simp [lover] at h
  | x :: xs, y :: l, r, us, vs, h, ⟨u, us', he, hx, hu⟩, ⟨v, vs', he', _, hv⟩ => by
    subst he; subst he'
    simp only [lover] at h
    split at h
    · rename_i r' hr
      simp only [Option.some.injEq] at h
      subst h
      obtain ⟨h1, h2⟩ := lover_is hr hu hv
      exact ⟨⟨u, _, rfl, hx, by simpa using h1⟩, by simpa using h2⟩
    · cases h
theorem lput_is {ρ : Env} {hP : HL} : ∀ {off : Nat} {xs l r : List SV} {us vs : List Value}, lput off xs l = some r → SV.isL ρ hP xs us → SV.isL ρ hP l vs →
    SV.isL ρ hP r (vs.take off ++ us ++ vs.drop (off + us.length)) ∧ off + us.length ≤ vs.length
  | 0, xs, l, r, us, vs, h, hu, hv => by simpa using lover_is (by simpa [lput] using h) hu hv
  | off + 1, xs, [], r, us, vs, h, hu, hv => by simp [lput] at h
  | off + 1, xs, y :: l, r, us, vs, h, hu, ⟨v, vs', he', hy, hv⟩ => by
    subst he'
    simp only [lput] at h
    split at h
    · rename_i r' hr
      simp only [Option.some.injEq] at h
      subst h
      obtain ⟨h1, h2⟩ := lput_is hr hu hv
      refine ⟨⟨v, vs'.take off ++ us ++ vs'.drop (off + us.length), ?_, hy, h1⟩, by simp; omega⟩
      rw [show off + 1 + us.length = off + us.length + 1 by omega, List.drop_succ_cons]
      simp
    · cases h

theorem foldl_set (off : Nat) : ∀ (us : List Value) (k : Nat) (cs : Array Value), off + k + us.length ≤ cs.size →
    ((us.zipIdx k).foldl (fun cs (x : Value × Nat) => cs.setIfInBounds (off + x.2) x.1) cs).toList = cs.toList.take (off + k) ++ us ++ cs.toList.drop (off + k + us.length)
  | [], k, cs, _ => by simp
  | u :: us, k, cs, h => by
    simp only [List.length_cons] at h
    simp only [List.zipIdx_cons, List.foldl_cons]
    rw [foldl_set off us (k + 1) (cs.setIfInBounds (off + k) u) (by simp; omega)]
    have e := list_seg_step cs.toList (off + k) u us (by simp; omega)
    simpa [Array.toList_setIfInBounds, Nat.add_assoc] using e

theorem fill_is {ρ : Env} {hP : HL} {a : Act} {pl : Nat → Option (Nat × Nat)} : ∀ {parts : List (Nat × Operand)} {l r : List SV} {cs : Array Value}, fillS pl l tm parts = some r → SV.isL ρ hP l cs.toList →
    (∀ x ∈ parts, (ev tm x.2).is ρ hP (a.eval x.2)) → ∃ cs', Instr.fill pl cs (parts.map fun x => (x.1, a.eval x.2)) = some cs' ∧ SV.isL ρ hP r cs'.toList ∧ cs'.size = cs.size
  | [], l, r, cs, h, hl, _ => by
    simp only [fillS, Option.some.injEq] at h
    subst h
    exact ⟨cs, rfl, hl, rfl⟩
  | (i, x) :: rest, l, r, cs, h, hl, hop => by
    simp only [fillS] at h
    split at h
    · cases h
    · rename_i off size hpl
      split at h
      · rename_i hsz
        split at h
        · rename_i r' hr
          obtain ⟨hc, _⟩ := cells_is hsz.2 (hop (i, x) (by simp))
          obtain ⟨h1, h2⟩ := lput_is hr hc hl
          have hlen := isL_length hc
          rw [← llen_eq, hsz.1] at hlen
          have hsize : (a.eval x).cells.size = size := by simpa using hlen
          simp only [Array.length_toList] at h2
          have hfs := foldl_set off (a.eval x).cells.toList 0 cs (by simpa using h2)
          simp only [Nat.add_zero] at hfs
          have hfa : (Array.foldl (fun cs (x : Value × Nat) => cs.setIfInBounds (off + x.2) x.1) cs (a.eval x).cells.zipIdx).toList = cs.toList.take off ++ (a.eval x).cells.toList ++ cs.toList.drop (off + (a.eval x).cells.toList.length) := by
            rw [← hfs, ← Array.foldl_toList, Array.toList_zipIdx]
          rw [← hfa] at h1
          obtain ⟨cs', h3, h4, h5⟩ := fill_is h h1 (fun y hy => hop y (by simp [hy]))
          refine ⟨cs', ?_, h4, ?_⟩
          · simp only [List.map_cons, Instr.fill, hpl]
            rw [if_neg (by simp only [Bool.or_eq_true, decide_eq_true_eq]; omega)]
            exact h3
          · refine h5.trans ?_
            have := congrArg List.length hfa
            rw [Array.length_toList] at this
            rw [this]
            simp
            omega
        · cases h
      · cases h

theorem mapC_is {ρ : Env} {hP : HL} : ∀ {l : List PV} {vs : List Value}, listIs hP l vs → SV.isL ρ hP (mapC l) vs
  | [], _, h => h
  | _ :: l, _, ⟨u, us, h1, h2, h3⟩ => ⟨u, us, h1, h2, mapC_is h3⟩

theorem parts_map (a : Act) (parts : Array (Nat × Operand)) : (parts.map fun (x : Nat × Operand) => (x.1, a.eval x.2)).toList = parts.toList.map fun x => (x.1, a.eval x.2) := by simp

theorem run_places (hT : TyOK P ty) : ∀ (l : List Field), knownF ty (l.map fun (f : Field) => (f.offset, f.type)) = true → ∀ w : World,
    (l.mapM fun (f : Field) => do pure (f.offset, ← sizeOf f.type)).run P w = .ok (l.map fun (f : Field) => (f.offset, (ty f.type).sz)) w
  | [], _, w => by simp
  | f :: l, h, w => by
    simp only [List.map_cons, knownF, Bool.and_eq_true, Bool.not_eq_true'] at h
    have h1 := (hT f.type h.1).size_run (ty := ty) w
    have h2 := run_places hT l h.2 w
    rw [List.mapM_cons]
    simp only [Sem.run_bind, h1, Result.andThen_ok, Sem.run_pure, h2, List.map_cons]

theorem sound_build {T : Nat} {parts : Array (Nat × Operand)} (hT : TyOK P ty) (ho : o.op = .build T parts) (h : opBuild ty T tm parts.toList = .ok p s rd wr) : OpOK P o tm H s rd wr := by
  have hopp : ∀ x ∈ parts.toList, x.2 ∈ o.op.operands := by
    intro x hx
    simp only [ho, Op.operands, List.mem_toArray, List.mem_map]
    exact ⟨x, hx, rfl⟩
  unfold opBuild at h
  split at h
  · rename_i fs hk
    split at h
    · cases h
    rename_i hkn
    have hkn' : knownF ty fs = true := by cases hb : knownF ty fs <;> simp_all
    split at h
    · rename_i l hf
      cases h
      refine OpOK.pure fun ρ own w a hop _ => ?_
      obtain ⟨fields, hu, hfs⟩ : TK.fits P T (.st fs) := und_of hT hk rfl
      have ht := hT T (by rw [hk]; rfl)
      obtain ⟨i, z, hi, _, _, _, _, hz, hzr⟩ := ht.info_run (ty := ty) w
      have hzs := mapC_is (ρ := ρ) (hz.1 (view own 0 w))
      obtain ⟨fl⟩ := fields
      simp only at hfs
      have hpl := run_places hT fl (by rw [hfs]; exact hkn') w
      have hplace : placeS ty fs = fun i => (fl.map fun f => (f.offset, (ty f.type).sz)).toArray[i]? := by
        funext i
        unfold placeS
        rw [nth_eq, ← hfs]
        simp only [List.getElem?_toArray, List.getElem?_map]
        cases fl[i]? <;> rfl
      rw [hplace] at hf
      obtain ⟨cs', h1, h2, _⟩ := fill_is hf hzs (fun x hx => hop x.2 (hopp x hx))
      refine ⟨.agg cs', ?_, ⟨cs', rfl, h2⟩⟩
      rw [← parts_map] at h1
      simp only [execOp, ho]
      simp only [Instr.build, Sem.run_bind, hzr, Result.andThen_ok, run_underlying hu, List.mapM_toArray, Sem.run_map, hpl]
      rw [h1]
      rfl
    · cases h
  · rename_i n e hk
    split at h
    · cases h
    rename_i hoth
    have hoth' : (ty e).k.isOther = false := by cases h : (ty e).k.isOther <;> simp_all
    split at h
    · rename_i l hf
      cases h
      refine OpOK.pure fun ρ own w a hop _ => ?_
      have hu : P.underlying T = some (.array n e) := und_of hT hk rfl
      have ht := hT T (by rw [hk]; rfl)
      obtain ⟨i, z, hi, _, _, _, _, hz, hzr⟩ := ht.info_run (ty := ty) w
      have hzs := mapC_is (ρ := ρ) (hz.1 (view own 0 w))
      have hse := (hT e hoth').size_run (ty := ty) w
      obtain ⟨cs', h1, h2, _⟩ := fill_is hf hzs (fun x hx => hop x.2 (hopp x hx))
      refine ⟨.agg cs', ?_, ⟨cs', rfl, h2⟩⟩
      rw [← parts_map] at h1
      simp only [execOp, ho]
      simp only [Instr.build, Sem.run_bind, hzr, Result.andThen_ok, run_underlying hu, hse]
      change Instr.fill (fun i => some (i * (ty e).sz, (ty e).sz)) _ _ = _ at h1
      rw [h1]
      rfl
    · cases h
  · cases h
end
end Go.Proofs.Ytladpdndjcgebaa.Sx
