/- The symbolic machine's run is sound. -/
import Derived.Test.YtladpdndjcgebaaSxW
import Derived.Tactics
namespace Go.Proofs.Ytladpdndjcgebaa.Sx
set_option linter.unusedVariables false
open Go

section
variable {P : Program} {ty : Ty} {tm : List SV} {H : List Ch} {p : Prop} {s : SV} {rd : List Nat} {wr : List (Nat × Ch)}

/-- What a load finds, as a value. -/
theorem load_val {T : Nat} {x : SV} (hT : TyOK P ty) (h : opLoad (ty T) H x = .ok p s rd wr) (hp : p) {ρ : Env} {own : Nat → Nat} {w : World} {y : Value} (hx : x.is ρ (view own 0 w) y) (hs : SatH ρ own w H) :
    ∃ A v, y = .pointer (some A) ∧ (loadVar T A).run P w = .ok v w ∧ s.is ρ (view own 0 w) v := by
  unfold opLoad at h
  split at h
  · cases h
  rename_i hoth
  have ht := hT T hoth
  split at h
  · rename_i C off
    split at h
    · rename_i T' l hl
      split at h
      · rename_i r hr
        simp only [Res.ok.injEq] at h
        obtain ⟨rfl, rfl, rfl, rfl⟩ := h
        obtain ⟨L, hL, rfl⟩ := hx
        have hsat := hs C
        rw [hl] at hsat
        obtain ⟨L', arr, hL', hoff, hcap, hb, his⟩ := hsat
        obtain rfl : L = L' := by rw [hL] at hL'; simpa using hL'
        obtain ⟨h1, h2, h3⟩ := lslice_is hr his
        obtain ⟨v, hv1, hv2⟩ := load_cells (P := P) (w := w) (b := L.blk) (off := L.off + off) ht hoth (vs := (arr.toList.drop off).take (ty T).sz) (by simp at h2 ⊢; omega) (fun j u hu => by
          rw [cell_of_heap (view_heap hb), hoff]
          rw [List.getElem?_take] at hu
          split at hu
          · rw [List.getElem?_drop] at hu
            simpa using hu
          · cases hu) h1
        exact ⟨_, v, rfl, hv1, hv2⟩
      · cases h
    · cases h
  · rename_i C k j
    split at h
    · rename_i T' sz n f hl
      simp only [Res.ok.injEq] at h
      obtain ⟨rfl, rfl, rfl, rfl⟩ := h
      obtain ⟨L, hL, rfl⟩ := hx
      have hsat := hs C
      rw [hl] at hsat
      obtain ⟨L', hL', hsz, hn, hcap, hrest⟩ := hsat
      obtain rfl : L = L' := by rw [hL] at hL'; simpa using hL'
      obtain ⟨arr, fr, hb, hfit, _, hcells⟩ := hrest (by omega)
      obtain ⟨vs, hv1, hv2, hv3⟩ := list_of_cells (w := w) (b := L.blk) (off := L.off + (k * L.sz + j)) (n := (ty T).sz) (Q := fun i u => (f k (j + i)).is (view own 0 w) u) (fun i hi => by
        obtain ⟨u, hu, hf⟩ := hcells k hp.1 (j + i) (by omega)
        refine ⟨u, ?_, hf⟩
        rw [cell_of_heap (view_heap hb), ← hu, hsz]
        congr 1
        omega)
      obtain ⟨v, h1, h2⟩ := load_cells (P := P) (w := w) (b := L.blk) (off := L.off + (k * L.sz + j)) ht hoth hv1 hv2 (tab_is (f k) _ j vs hv1 hv3)
      exact ⟨_, v, rfl, h1, h2⟩
    · cases h
  · rename_i n g
    simp only [Res.ok.injEq] at h
    obtain ⟨rfl, rfl, rfl, rfl⟩ := h
    obtain ⟨blk, off, rfl, hg⟩ := hx
    obtain ⟨vs, hv1, hv2, hv3⟩ := list_of_cells (w := w) (b := blk) (off := off) (n := (ty T).sz) (Q := fun i u => (g i).is (view own 0 w) u) (fun i hi => by
      obtain ⟨u, hu, hf⟩ := hg i (by omega)
      exact ⟨u, cell_of_hcell hu, hf⟩)
    obtain ⟨v, h1, h2⟩ := load_cells (P := P) (w := w) (b := blk) (off := off) ht hoth hv1 hv2 (tab_is g _ 0 vs hv1 (by simpa using hv3))
    exact ⟨_, v, rfl, h1, h2⟩
  · cases h

theorem tmps_is {ρ : Env} {hP : HL} {tmps : Array Value} (h : SV.isL ρ hP tm tmps.toList) (t : Nat) : (lget tm t).is ρ hP (tmps.getD t undef) := by
  have := lget_is t h
  simpa [List.getD, Array.getD_eq_getD_getElem?] using this

theorem res_run (hT : TyOK P ty) {ρ : Env} {own : Nat → Nat} {w : World} {tmps : Array Value} (h : SV.isL ρ (view own 0 w) tm tmps.toList) (hs : SatH ρ own w H) : ∀ (l : List ResultVar) (rs : List SV), resS ty tm H l = some rs →
    ∃ vs, (l.mapM (fun x : ResultVar => (match x with | .tmp t => pure (tmps.getD t undef) | .cell a t => do loadVar t (← asAddr (tmps.getD a undef)) : Sem Value))).run P w = .ok vs w ∧ SV.isL ρ (view own 0 w) rs vs
  | [], rs, hr => by
    simp only [resS, Option.some.injEq] at hr
    subst hr
    exact ⟨[], by simp, rfl⟩
  | .tmp t :: l, rs, hr => by
    simp only [resS] at hr
    split at hr
    · rename_i r hr'
      simp only [Option.some.injEq] at hr
      subst hr
      obtain ⟨vs, h1, h2⟩ := res_run hT h hs l r hr'
      refine ⟨tmps.getD t undef :: vs, ?_, ⟨_, vs, rfl, tmps_is h t, h2⟩⟩
      simp only [List.mapM_cons, Sem.run_bind, Sem.run_pure, Result.andThen_ok, h1]
    · cases hr
  | .cell a T :: l, rs, hr => by
    simp only [resS] at hr
    split at hr
    · rename_i q s' rd' wr' hld
      split at hr
      · rename_i r hq hr'
        simp only [Option.some.injEq] at hr
        subst hr
        obtain ⟨vs, h1, h2⟩ := res_run hT h hs l r hr'
        have hq : q := by simpa [decP] using hq
        obtain ⟨A, v, hA, hv1, hv2⟩ := load_val hT hld hq (tmps_is h a) hs
        refine ⟨v :: vs, ?_, ⟨_, vs, rfl, hv2, h2⟩⟩
        have hA' : (asAddr (tmps.getD a undef)).run P w = .ok A w := by rw [hA]; simp [asAddr]
        simp only [List.mapM_cons, Sem.run_bind, hA', Sem.run_pure, Result.andThen_ok, hv1, h1]
      · cases hr
    · cases hr

theorem results_run (hT : TyOK P ty) {fn : Func} {ρ : Env} {own : Nat → Nat} {w : World} {tmps : Array Value} (h : SV.isL ρ (view own 0 w) tm tmps.toList) (hs : SatH ρ own w H) (hr : resW (resS ty tm H fn.results.toList) = some s) :
    ∃ v, (results fn tmps).run P w = .ok v w ∧ s.is ρ (view own 0 w) v := by
  cases hrs : resS ty tm H fn.results.toList with
  | none => rw [hrs] at hr; simp [resW] at hr
  | some rs =>
    obtain ⟨vs, h1, h2⟩ := res_run hT h hs _ _ hrs
    rw [hrs] at hr
    unfold results
    rw [Array.mapM_eq_mapM_toList]
    refine ⟨if h : vs.toArray.size = 1 then vs.toArray[0] else .tuple vs.toArray, by
      simp only [Sem.run_bind, Sem.run_map, Sem.run_pure]
      exact congrArg (fun r : Result (List Value) => (r.andThen fun a w' => Result.ok a.toArray w').andThen fun a w' => Result.ok (if h : a.size = 1 then a[0] else Value.tuple a) w') h1, ?_⟩
    match rs, h2 with
    | [x], ⟨u, us, he, hx, hn⟩ =>
      have hn : us = [] := hn
      subst hn; subst he
      simp only [resW, Option.some.injEq] at hr
      subst hr
      exact hx
    | [], hn =>
      have hn : vs = [] := hn
      subst hn
      simp only [resW, Option.some.injEq] at hr
      subst hr
      exact ⟨#[], rfl, rfl⟩
    | x :: y :: r, ⟨u, us, he, hx, ⟨u', us', he', hx', hr'⟩⟩ =>
      subst he'; subst he
      simp only [resW, Option.some.injEq] at hr
      subst hr
      exact ⟨(u :: u' :: us').toArray, by simp, ⟨u, _, rfl, hx, ⟨u', us', rfl, hx', hr'⟩⟩⟩
end

variable {E : FE}

theorem MO.step {o : Oper} {all l : List Oper} {k : List It} {tm : List SV} {H : List Ch} {d : Option Dr} {s : SV} {rd : List Nat} {wr : List (Nat × Ch)} (hw : wantS all tm o = some true) (ho : OpOK E.P o tm H s rd wr)
    (h : MO E (drPush d ⟨s, rd, wr, true⟩) all l k (put tm o.dst s) (hsets H wr)) : MO E d all (o :: l) k tm H := by
  cases d with
  | none =>
    intro s0 ρ own a w hst
    unfold wpList
    rw [wanted_of hst.tmps hw, if_pos rfl]
    exact .inl (hst.op ho fun ρ' own' a' w' hst' => h s0 ρ' own' a' w' hst')
  | some dr => exact fun hd => h (.step hd hw ho)

theorem MO.skip {o : Oper} {all l : List Oper} {k : List It} {tm : List SV} {H : List Ch} {d : Option Dr} (hw : wantS all tm o = some false)
    (h : MO E (drPush d ⟨undefS, [], [], false⟩) all l k (put tm o.dst undefS) H) : MO E d all (o :: l) k tm H := by
  cases d with
  | none =>
    intro s0 ρ own a w hst
    unfold wpList
    rw [wanted_of hst.tmps hw, if_neg (by simp)]
    exact h s0 ρ own _ w hst.skip
  | some dr => exact fun hd => h (.skip hd hw)

theorem St.drew {s0 : Start} {tm : List SV} {H : List Ch} {ρ : Env} {own : Nat → Nat} {a : Act} {w : World} (h : St E s0 tm H ρ own a w) : St E s0 tm H ρ own a { w with drawn := w.drawn + 1 } :=
  ⟨⟨h.since.loc, h.since.sub, h.since.size, h.since.os, h.since.tape, h.since.output⟩, h.fresh, h.tmps, h.defers, h.sat, h.len⟩

theorem RunsFrom.step {k k' : List It} {tm : List SV} {H : List Ch} (hs : ∀ s0 ρ own a w, St E s0 tm H ρ own a w → ∀ cs, Go.step E.P (lone ((base E.f).at a (k.map It.den)) cs w) = .next (lone ((base E.f).at a (k'.map It.den)) cs w)) (h : RunsFrom E k' tm H) : RunsFrom E k tm H :=
  fun s0 ρ own a w hst => Runs.step (hs s0 ρ own a w hst) (h s0 ρ own a w hst)

theorem fin_sound (hT : TyOK E.P E.ty) (hf : E.P.funcs[E.f]? = some E.fn) {s : SV} {tm : List SV} {H : List Ch} (h : FinG E s H) (hr : resW (resS E.ty tm H E.fn.results.toList) = some s) : RunsFrom E [] tm H ∧ ∀ k', RunsFrom E (.code .ret :: k') tm H := by
  have key : ∀ (todo : List Item) s0 ρ own a w, St E s0 tm H ρ own a w → (∀ cs, Go.step E.P (lone ((base E.f).at a todo) cs w) = .next (lone { (base E.f).at a todo with mode := .returning } cs w)) → Runs E.P E.f (RetP E.k0 E.Post s0) todo a w := by
    intro todo s0 ρ own a w hst hs cs
    obtain ⟨v, h1, h2⟩ := results_run (fn := E.fn) hT hst.tmps hst.sat hr
    exact ⟨.returned v, w, _, h s0 ρ own w v hst.since hst.len hst.fresh h2 hst.sat, Steps.one (hs cs), rfl, rfl, hst.defers, rfl, E.fn, hf, h1⟩
  exact ⟨fun s0 ρ own a w hst => key _ s0 ρ own a w hst fun cs => step_end, fun k' s0 ρ own a w hst => key _ s0 ρ own a w hst fun cs => step_ret⟩

theorem go_sound (hT : TyOK E.P E.ty) (hm : E.P.follows .mixedOrders = true) (hf : E.P.funcs[E.f]? = some E.fn) : ∀ (n : Nat) (md : Md) (k : List It) (tm : List SV) (H : List Ch), go E n md k tm H → M E md k tm H := by
  intro n
  induction n with
  | zero => intro md k tm H h; simpa only [go] using h
  | succ n ih =>
    intro md k tm H h
    cases md with
    | o d all l =>
      cases l with
      | nil =>
        simp only [go] at h
        cases d with
        | none =>
          have h1 := ih _ _ _ _ h
          exact fun s0 ρ own a w hst => ⟨rfl, h1 s0 ρ own a w hst⟩
        | some dr =>
          obtain ⟨hi, h⟩ := h
          have h1 := ih _ _ _ _ h
          exact fun hd s0 ρ own a w hst => draw_sound hd hi hst fun ρ' own' a' w' hst' => ⟨rfl, h1 s0 ρ' own' a' w' hst'⟩
      | cons o l =>
        simp only [go] at h
        exact ih _ _ _ _ h rfl
    | w t o d all l =>
      simp only [go] at h
      split at h
      · have h1 := ih _ _ _ _ h
        exact fun hw => h1 hw rfl
      · have h1 := ih _ _ _ _ h
        exact fun hw => MO.skip hw h1
      · exact h
    | x r o d all l =>
      simp only [go] at h
      split at h
      · have h1 := ih _ _ _ _ h.2
        exact fun hw ho => MO.step hw (ops_sound hT ho h.1) h1
      · exact h
      · exact h
    | br t a b =>
      simp only [go] at h
      split at h
      · have h1 : RunsFrom E (.code a :: k) tm H := ih _ _ _ _ h
        exact h1
      · have h1 : RunsFrom E (.code b :: k) tm H := ih _ _ _ _ h
        exact h1
    | f r =>
      simp only [go] at h
      split at h
      · exact fin_sound hT hf h
      · exact h
    | k =>
      cases k with
      | nil =>
        simp only [go] at h
        exact (ih _ _ _ _ h rfl).1
      | cons i k =>
        cases i with
        | blk id =>
          simp only [go] at h
          exact RunsFrom.step (fun _ _ _ _ _ _ _ => step_inBlock) (ih _ _ _ _ h)
        | lp c =>
          simp only [go] at h
          exact RunsFrom.step (fun _ _ _ _ _ _ _ => step_inLoop) h
        | code c =>
          cases c with
          | skip => simp only [go] at h; exact RunsFrom.step (fun _ _ _ _ _ _ _ => step_skip) (ih _ _ _ _ h)
          | seq a b => simp only [go] at h; exact RunsFrom.step (fun _ _ _ _ _ _ _ => step_seq) (ih _ _ _ _ h)
          | block id c => simp only [go] at h; exact RunsFrom.step (fun _ _ _ _ _ _ _ => step_block) (ih _ _ _ _ h)
          | loop c => simp only [go] at h; exact RunsFrom.step (fun _ _ _ _ _ _ _ => step_loop) h
          | exit id =>
            simp only [go] at h
            split at h
            · rename_i k' hk
              exact RunsFrom.step (fun _ _ _ _ _ _ _ => step_exit (xexit_den hk)) (ih _ _ _ _ h)
            · exact h
          | cond c a b =>
            simp only [go] at h
            split at h
            · rename_i t ht
              have h1 := ih _ _ _ _ h
              refine RunsFrom.step (k' := .code (if t then a else b) :: k) (fun s0 ρ own ac w hst cs => step_cond ?_) h1
              have := ev_is hst.tmps c
              rw [ht] at this
              exact this
            · exact h
          | ret =>
            simp only [go] at h
            exact (ih _ _ _ _ h rfl).2 k
          | region id ops dr =>
            cases dr with
            | false =>
              simp only [go] at h
              have h1 := ih _ _ _ _ h
              intro s0 ρ own a w hst
              refine runs_of_wp (wp_region ?_)
              have h2 := h1 s0 ρ own a w hst
              have h3 := wpOps_eq_wpList (P := E.P) (ops := ops) (Q := exitQ E s0 k) ops.toList 0 (by simp)
              rw [Array.length_toList, ← List.range_eq_range'] at h3
              rw [Array.toArray_toList] at h2
              rw [← h3] at h2
              exact h2
            | true =>
              simp only [go] at h
              have h1 := ih _ _ _ _ h
              intro s0 ρ own a w hst
              refine runs_of_wp (wp_region_any hm ?_)
              have h2 := h1 (.nil ..) s0 ρ own a _ hst.drew
              rw [Array.toArray_toList, Array.length_toList] at h2
              exact h2
          | _ => exact h

def padS : Nat → List SV
  | 0 => []
  | n + 1 => undefS :: padS n
theorem padS_is {ρ : Env} {hP : HL} : ∀ n, SV.isL ρ hP (padS n) (List.replicate n undef)
  | 0 => rfl
  | n + 1 => ⟨undef, List.replicate n undef, rfl, ⟨#[], rfl, rfl⟩, padS_is n⟩

/-- THE CONTRACT OF A FUNCTION, out of the symbolic machine's run over its body. -/
theorem spec_of {P : Program} {ty : Ty} {f : FuncId} {fn : Func} {c : Code} {args : List SV} {pre : List Ch} {Post : SV → List Ch → Prop} (hT : TyOK P ty) (hm : P.follows .mixedOrders = true) (hf : P.funcs[f]? = some fn) (hnm : (fn.name == "runtime.NumGoroutine") = false) (hb : fn.body = some c)
    {m : Nat} (hn : fn.ntmps - args.length = m) (h : RunsFrom ⟨P, ty, f, fn, hlen pre, Post⟩ [.code c] (args ++ padS m) pre) : Spec P f args pre Post := by
  refine ⟨⟨fn, hf, hnm, by rw [hb]; rfl⟩, ?_⟩
  intro ρ own w vs hfresh hargs hsat cs
  have henter : Frame.enter P f vs.toArray .normal = (base f).at { tmps := vs.toArray ++ Array.replicate (fn.ntmps - vs.toArray.size) undef, defers := [] } [.code c] := by
    simp [Frame.enter, Frame.at, hf, hb, base]
  rw [henter]
  have hlen1 := isL_length hargs
  have hst : St ⟨P, ty, f, fn, hlen pre, Post⟩ ⟨ρ, own, w⟩ (args ++ padS m) pre ρ own { tmps := vs.toArray ++ Array.replicate (fn.ntmps - vs.toArray.size) undef, defers := [] } w := by
    refine ⟨⟨fun _ _ => rfl, fun _ _ => HL.le_refl _, Nat.le_refl _, rfl, rfl, rfl⟩, hfresh, ?_, rfl, hsat, Nat.le_refl _⟩
    have : fn.ntmps - vs.toArray.size = m := by simp [hlen1, hn]
    rw [this]
    simpa using isL_append hargs (padS_is m)
  obtain ⟨e, w', fr, h1, h2, h3, h4⟩ := h ⟨ρ, own, w⟩ ρ own _ w hst cs
  exact ⟨e, w', fr, h1, h2, h3, h4⟩

end Go.Proofs.Ytladpdndjcgebaa.Sx
