/- The symbolic machine's run is sound: small facts on lists, frames and states; the result; straight code. -/
import Derived.Test.YtladpdndjcgebaaSxD
import Derived.Test.YtladpdndjcgebaaSxT
namespace Go.Proofs.Ytladpdndjcgebaa.Sx
set_option linter.unusedVariables false
open Go

/-! ### lists -/
theorem lget_is {ρ : Env} {hP : HL} : ∀ {l : List SV} {vs : List Value} (n : Nat), SV.isL ρ hP l vs → (lget l n).is ρ hP (vs.getD n undef)
  | [], vs, n, h => by
    have h0 : vs = [] := h
    subst h0
    exact ⟨#[], by simp [undef], rfl⟩
  | s :: l, vs, 0, h => by
    obtain ⟨u, us, rfl, h1, _⟩ := h
    simpa [lget] using h1
  | s :: l, vs, n + 1, h => by
    obtain ⟨u, us, rfl, _, h2⟩ := h
    simpa [lget] using lget_is n h2
theorem lset_is {ρ : Env} {hP : HL} {s : SV} {v : Value} (hs : s.is ρ hP v) : ∀ {l : List SV} {vs : List Value} (n : Nat), SV.isL ρ hP l vs → SV.isL ρ hP (lset l n s) (vs.set n v)
  | [], vs, n, h => by
    have h0 : vs = [] := h
    subst h0
    rfl
  | _ :: l, vs, 0, h => by
    obtain ⟨u, us, rfl, _, h2⟩ := h
    exact ⟨v, us, rfl, hs, h2⟩
  | _ :: l, vs, n + 1, h => by
    obtain ⟨u, us, rfl, h1, h2⟩ := h
    exact ⟨u, us.set n v, rfl, h1, lset_is hs n h2⟩
theorem isL_length {ρ : Env} {hP : HL} : ∀ {l : List SV} {vs : List Value}, SV.isL ρ hP l vs → vs.length = l.length
  | [], vs, h => by have h0 : vs = [] := h; subst h0; rfl
  | _ :: l, vs, h => by obtain ⟨u, us, rfl, _, h2⟩ := h; simp [isL_length h2]
theorem isL_append {ρ : Env} {hP : HL} : ∀ {l : List SV} {vs : List Value} {l' : List SV} {vs' : List Value}, SV.isL ρ hP l vs → SV.isL ρ hP l' vs' → SV.isL ρ hP (l ++ l') (vs ++ vs')
  | [], vs, _, _, h, h' => by have h0 : vs = [] := h; subst h0; exact h'
  | _ :: l, vs, _, _, h, h' => by obtain ⟨u, us, rfl, h1, h2⟩ := h; exact ⟨u, us ++ _, rfl, h1, isL_append h2 h'⟩
theorem isL_get {ρ : Env} {hP : HL} : ∀ {l : List SV} {vs : List Value} {n : Nat} {u : Value}, SV.isL ρ hP l vs → vs[n]? = some u → ∃ s, l[n]? = some s ∧ s.is ρ hP u
  | [], vs, n, u, h, hu => by have h0 : vs = [] := h; subst h0; simp at hu
  | s :: l, vs, 0, u, h, hu => by obtain ⟨u', us, rfl, h1, _⟩ := h; simp at hu; subst hu; exact ⟨s, rfl, h1⟩
  | s :: l, vs, n + 1, u, h, hu => by obtain ⟨u', us, rfl, _, h2⟩ := h; simp at hu; simpa using isL_get h2 hu
theorem nth_eq {α : Type} : ∀ (l : List α) (n : Nat), nth l n = l[n]?
  | [], _ => rfl
  | _ :: _, 0 => rfl
  | _ :: l, n + 1 => by simp [nth, nth_eq l n]

theorem ofV_is {ρ : Env} {hP : HL} (e : Value) : (ofV e).is ρ hP e := by
  cases e <;> first | rfl | exact ⟨rfl, rfl⟩ | exact trivial | (show _ = _; simp)
theorem mapOf_is {ρ : Env} {hP : HL} : ∀ (l : List Value), SV.isL ρ hP (l.map ofV) l
  | [] => rfl
  | e :: l => ⟨e, l, rfl, ofV_is e, mapOf_is l⟩
theorem ofVal_is {ρ : Env} {hP : HL} (e : Value) : (ofVal e).is ρ hP e := by
  unfold ofVal
  split
  · exact ⟨_, rfl, mapOf_is _⟩
  · exact ⟨_, rfl, mapOf_is _⟩
  · rename_i f first caps
    split
    · rename_i h
      simp only [Bool.and_eq_true, Array.isEmpty_iff] at h
      obtain ⟨rfl, rfl⟩ := h
      exact ⟨#[], rfl, rfl⟩
    · exact trivial
  · exact ofV_is _
theorem ev_is {ρ : Env} {hP : HL} {tm : List SV} {a : Act} (h : SV.isL ρ hP tm a.tmps.toList) (x : Operand) : (ev tm x).is ρ hP (a.eval x) := by
  cases x with
  | tmp n =>
    have := lget_is n h
    simpa [ev, Act.eval, List.getD, Array.getD_eq_getD_getElem?] using this
  | const e => exact ofVal_is e
  | global g => exact ⟨rfl, rfl⟩
  | func f => exact ⟨#[], rfl, rfl⟩

/-! ### chunks -/
theorem hget_hset : ∀ (H : List Ch) (c : Nat) (e : Ch) (d : Nat), hget (hset H c e) d = if d = c then e else hget H d
  | [], 0, e, 0 => rfl
  | [], 0, e, d + 1 => by simp [hset, hget]
  | [], c + 1, e, 0 => by simp [hset, hget]
  | [], c + 1, e, d + 1 => by
    have := hget_hset [] c e d
    simp only [hset, hget, Nat.add_right_cancel_iff] at *
    exact this
  | _ :: l, 0, e, 0 => by simp [hset, hget]
  | _ :: l, 0, e, d + 1 => by simp [hset, hget]
  | _ :: l, c + 1, e, 0 => by simp [hset, hget]
  | x :: l, c + 1, e, d + 1 => by
    have := hget_hset l c e d
    simp only [hset, hget, Nat.add_right_cancel_iff] at *
    exact this
theorem hlen_eq : ∀ (H : List Ch), hlen H = H.length
  | [] => rfl
  | _ :: l => by simp [hlen, hlen_eq l]
theorem hlen_hset : ∀ (H : List Ch) (c : Nat) (e : Ch), hlen (hset H c e) = max (hlen H) (c + 1)
  | [], 0, e => rfl
  | [], c + 1, e => by simp [hset, hlen, hlen_hset [] c e]
  | _ :: l, 0, e => by simp [hset, hlen]
  | _ :: l, c + 1, e => by simp [hset, hlen, hlen_hset l c e]
theorem hget_ge : ∀ (H : List Ch) (c : Nat), hlen H ≤ c → hget H c = .none
  | [], _, _ => rfl
  | _ :: l, 0, h => by simp [hlen] at h
  | _ :: l, c + 1, h => by simp [hlen] at h; exact hget_ge l c h
theorem hlen_hsets : ∀ (wr : List (Nat × Ch)) (H : List Ch), hlen H ≤ hlen (hsets H wr) ∧ ∀ x ∈ wr, x.1 < hlen (hsets H wr)
  | [], H => ⟨Nat.le_refl _, by simp⟩
  | (c, e) :: r, H => by
    obtain ⟨h1, h2⟩ := hlen_hsets r (hset H c e)
    have h3 := hlen_hset H c e
    refine ⟨?_, ?_⟩
    · simp only [hsets]; omega
    · intro x hx
      rcases List.mem_cons.1 hx with rfl | hx
      · simp only [hsets]; omega
      · exact h2 x hx
theorem hsets_sat {ρ : Env} {own : Nat → Nat} {w : World} : ∀ (wr : List (Nat × Ch)) (H : List Ch),
    (∀ c, c ∉ wnames wr → (hget H c).sat ρ c (view own 0 w) (view own (c + 3) w)) → (∀ x ∈ wr, x.2.sat ρ x.1 (view own 0 w) (view own (x.1 + 3) w)) → SatH ρ own w (hsets H wr)
  | [], H, h, _ => fun c => h c (by simp [wnames])
  | (c, e) :: r, H, h, hw => by
    refine hsets_sat r (hset H c e) (fun d hd => ?_) (fun x hx => hw x (List.mem_cons_of_mem _ hx))
    rw [hget_hset]
    by_cases hdc : d = c
    · subst hdc; rw [if_pos rfl]; exact hw (d, e) (List.mem_cons_self ..)
    · rw [if_neg hdc]
      exact h d (by simp only [wnames, List.map_cons, List.mem_cons, not_or]; exact ⟨hdc, hd⟩)

theorem newsOf_lt {H : List Ch} {wr : List (Nat × Ch)} {c : Nat} (h : c ∈ newsOf H wr) : hlen H ≤ c ∧ c < hlen (hsets H wr) := by
  simp only [newsOf, List.mem_filter, decide_eq_true_eq, wnames, List.mem_map] at h
  obtain ⟨⟨x, hx, rfl⟩, hc⟩ := h
  exact ⟨hc, (hlen_hsets wr H).2 x hx⟩

/-! ### a step of a state -/
theorem Stp.envLe {news wrs : List Nat} {ρ ρ' : Env} {own own' : Nat → Nat} {w w' : World} (h : Stp news wrs ρ own w ρ' own' w') (hn : ∀ c ∈ news, ρ c = none) : Env.le ρ ρ' := fun c l hc => by
  by_cases hm : c ∈ news
  · rw [hn c hm] at hc; cases hc
  · rw [h.loc c hm]; exact hc

theorem put_tmps {ρ : Env} {hP : HL} {tm : List SV} {a : Act} {s : SV} {v : Value} (h : SV.isL ρ hP tm a.tmps.toList) (hs : s.is ρ hP v) (d : Option Tmp) : SV.isL ρ hP (put tm d s) (a.put d v).tmps.toList := by
  cases d with
  | none => exact h
  | some d => simpa [put, Act.put] using lset_is hs d h
theorem put_defers (a : Act) (d : Option Tmp) (v : Value) : (a.put d v).defers = a.defers := by cases d <;> rfl

theorem St.step {E : FE} {s0 : Start} {tm : List SV} {H : List Ch} {ρ ρ' : Env} {own own' : Nat → Nat} {a : Act} {w w' : World} {s : SV} {v : Value} {wr : List (Nat × Ch)} {d : Option Tmp}
    (h : St E s0 tm H ρ own a w) (hs : Stp (newsOf H wr) (wnames wr) ρ own w ρ' own' w') (hv : s.is ρ' (view own' 0 w') v)
    (hw : ∀ x ∈ wr, x.2.sat ρ' x.1 (view own' 0 w') (view own' (x.1 + 3) w')) : St E s0 (put tm d s) (hsets H wr) ρ' own' (a.put d v) w' := by
  have hle := hs.envLe (fun c hc => h.fresh c (newsOf_lt hc).1)
  have h0 : HL.le (view own 0 w) (view own' 0 w') := hs.sub 0 (by omega)
  refine ⟨⟨fun c hc => ?_, fun k hk => ?_, Nat.le_trans h.since.size hs.size, hs.os.trans h.since.os, hs.tape.trans h.since.tape, hs.output.trans h.since.output⟩, fun c hc => ?_, ?_, ?_, ?_, ?_⟩
  · rw [hs.loc c (fun hm => by have := (newsOf_lt hm).1; have := h.len; omega)]
    exact h.since.loc c hc
  · exact HL.le_trans (h.since.sub k hk) (hs.sub k (by omega))
  · rw [hs.loc c (fun hm => by have := (newsOf_lt hm).2; omega)]
    exact h.fresh c (by have := (hlen_hsets wr H).1; omega)
  · exact put_tmps (SV.monoL hle h0 _ _ h.tmps) hv d
  · rw [put_defers]; exact h.defers
  · refine hsets_sat wr H (fun c hc => Ch.sat_mono hle h0 (hs.sub (c + 3) (fun d hd he => hc ?_)) (h.sat c)) hw
    have hcd : c = d := by omega
    subst hcd
    exact hd
  · exact Nat.le_trans h.len (hlen_hsets wr H).1

theorem St.skip {E : FE} {s0 : Start} {tm : List SV} {H : List Ch} {ρ : Env} {own : Nat → Nat} {a : Act} {w : World} {d : Option Tmp} (h : St E s0 tm H ρ own a w) : St E s0 (put tm d undefS) H ρ own (a.put d undef) w :=
  ⟨h.since, h.fresh, put_tmps (s := undefS) h.tmps ⟨#[], rfl, rfl⟩ d, (put_defers ..).trans h.defers, h.sat, h.len⟩

theorem St.op {E : FE} {s0 : Start} {tm : List SV} {H : List Ch} {ρ : Env} {own : Nat → Nat} {a : Act} {w : World} {o : Oper} {s : SV} {rd : List Nat} {wr : List (Nat × Ch)}
    (h : St E s0 tm H ρ own a w) (ho : OpOK E.P o tm H s rd wr) {K : Act → World → Prop} {Q : Exit → Act → World → Prop}
    (hK : ∀ ρ' own' a' w', St E s0 (put tm o.dst s) (hsets H wr) ρ' own' a' w' → K a' w') : o.wp E.P a w K Q :=
  ho ρ own w a K Q (fun x _ => ev_is h.tmps x) (fun c _ => h.sat c) (fun c hc => h.fresh c (newsOf_lt hc).1)
    fun ρ' own' w' v hs hv hw => hK ρ' own' _ w' (h.step hs hv hw)

/-! ### guards -/
theorem wanted_of {ρ : Env} {hP : HL} {all : List Oper} {tm : List SV} {a : Act} {o : Oper} {t : Bool} (h : SV.isL ρ hP tm a.tmps.toList) (hw : wantS all tm o = some t) :
    Region.wanted o (yielded all.toArray a.tmps) = t := by
  unfold wantS at hw
  unfold Region.wanted
  cases hg : o.guard with
  | none => rw [hg] at hw; simpa using hw
  | some jw =>
    obtain ⟨j, want⟩ := jw
    rw [hg] at hw
    simp only at hw ⊢
    rw [nth_eq] at hw
    cases hj : all[j]? with
    | none => rw [hj] at hw; simp at hw
    | some oj =>
      rw [hj] at hw
      simp only at hw
      cases hd : oj.dst with
      | none => rw [hd] at hw; simp at hw
      | some d =>
        rw [hd] at hw
        simp only at hw
        have hl := lget_is (n := d) h
        unfold yielded
        simp only [List.getElem?_toArray, hj, Option.bind_some, hd]
        cases he : a.tmps[d]? with
        | none =>
          have hv : a.tmps.toList.getD d undef = undef := by simp [List.getD, he]
          rw [hv] at hl
          split at hw
          · rename_i e hs
            rw [hs] at hl
            have : undef = Value.bool e := hl
            simp [undef] at this
          · simp at hw; subst hw; simp
          · simp at hw
        | some u =>
          have hv : a.tmps.toList.getD d undef = u := by simp [List.getD, he]
          rw [hv] at hl
          split at hw
          · rename_i e hs
            rw [hs] at hl
            have hu : u = Value.bool e := hl
            subst hu
            simp at hw
            subst hw
            cases e <;> cases want <;> rfl
          · rename_i hs
            rw [hs] at hl
            obtain ⟨vs, hu, _⟩ := hl
            subst hu
            simp at hw
            subst hw
            simp
          · simp at hw

/-! ### control -/
theorem Runs.step {P : Program} {f : FuncId} {R : Ending → World → Prop} {t t' : List Item} {a a' : Act} {w w' : World}
    (h : ∀ cs, Go.step P (lone ((base f).at a t) cs w) = .next (lone ((base f).at a' t') cs w')) (hr : Runs P f R t' a' w') : Runs P f R t a w := fun cs =>
  let ⟨e, w1, fr, h1, h2, h3, h4⟩ := hr cs
  ⟨e, w1, fr, h1, Comes.of_steps (.one (h cs)) h2, h3, h4⟩

theorem xexit_den {id : Nat} : ∀ {k k' : List It}, xexit id k = some k' → exitTo id (k.map It.den) = some (k'.map It.den)
  | [], _, h => by simp [xexit] at h
  | .blk j :: k, k', h => by
    simp only [xexit] at h
    by_cases hj : j = id
    · rw [if_pos hj] at h
      simp only [Option.some.injEq] at h
      subst h; subst hj
      simp [It.den, exitTo]
    · rw [if_neg hj] at h
      simp [It.den, exitTo, hj, xexit_den h]
  | .code c :: k, k', h => by simp only [xexit] at h; simp [It.den, exitTo, xexit_den h]
  | .lp c :: k, k', h => by simp only [xexit] at h; simp [It.den, exitTo, xexit_den h]

theorem runs_of_wp {P : Program} {f : FuncId} {R : Ending → World → Prop} {c : Code} {k : List Item} {a : Act} {w : World}
    (h : c.wp P (fun e a w => e = .normal ∧ Runs P f R k a w) a w) : Runs P f R (.code c :: k) a w := fun cs => by
  obtain ⟨e, a', w', ⟨he, hr⟩, harr⟩ := h (base f) k cs
  subst he
  obtain ⟨e, w1, fr, h1, h2, h3, h4⟩ := hr cs
  exact ⟨e, w1, fr, h1, Comes.of_steps harr h2, h3, h4⟩

end Go.Proofs.Ytladpdndjcgebaa.Sx
