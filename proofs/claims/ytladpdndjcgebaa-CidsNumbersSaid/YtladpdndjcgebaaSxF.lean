/- The operations of the symbolic machine are sound (1): those that leave memory alone. -/
import Derived.Test.YtladpdndjcgebaaSxE
namespace Go.Proofs.Ytladpdndjcgebaa.Sx
set_option linter.unusedVariables false
open Go

section
variable {P : Program} {ty : Ty} {o : Oper} {tm : List SV} {H : List Ch} {p : Prop} {s : SV} {rd : List Nat} {wr : List (Nat × Ch)}

theorem OpOK.pure (h : ∀ ρ own w (a : Act), (∀ x ∈ o.op.operands, (ev tm x).is ρ (view own 0 w) (a.eval x)) →
      (∀ c ∈ rd, (hget H c).sat ρ c (view own 0 w) (view own (c + 3) w)) → ∃ v, (execOp a.eval o).run P w = .ok (.value v) w ∧ s.is ρ (view own 0 w) v) : OpOK P o tm H s rd [] := by
  intro ρ own w a K Q ho hs _ hK
  obtain ⟨v, hr, hv⟩ := h ρ own w a ho (fun c hc => hs c (.inl hc))
  unfold Oper.wp
  rw [hr]
  exact hK ρ own w v ⟨fun _ _ => rfl, fun _ _ => HL.le_refl _, Nat.le_refl _, rfl, rfl, rfl⟩ hv (by simp)

theorem view_heap {own : Nat → Nat} {k : Nat} {w : World} {b : Nat} {ob : Obj} (h : view own k w b = some ob) : w.heap[b]? = some ob := by
  unfold view at h
  split at h
  · exact h
  · cases h
theorem view_own {own : Nat → Nat} {k : Nat} {w : World} {b : Nat} {ob : Obj} (h : view own k w b = some ob) : own b = k := by
  unfold view at h
  split at h
  · assumption
  · cases h
theorem cell_of_heap {w : World} {b : Nat} {arr : Array Value} {t : TypeId} {fr : Nat × Nat} (h : w.heap[b]? = some (.cells arr t fr)) (i : Nat) : w.cell? ⟨b, i, none⟩ = arr[i]? := by simp [World.cell?, h]
theorem cell_of_hcell {own : Nat → Nat} {k : Nat} {w : World} {b i : Nat} {u : Value} (h : hcell (view own k w) b i = some u) : w.cell? ⟨b, i, none⟩ = some u := by
  unfold hcell at h
  split at h
  · rename_i c t fr hb
    rw [cell_of_heap (view_heap hb)]
    exact h
  · cases h
theorem addr_add (b o j : Nat) : (⟨b, o, none⟩ : Addr).add j = ⟨b, o + j, none⟩ := by
  unfold Addr.add
  split
  · rename_i h; subst h; rfl
  · rfl

/-! ### types -/
theorem run_und {T : Nat} {d : TypeDesc} (h : P.underlying T = some d) (w : World) : (underlying T).run P w = .ok d w := run_underlying h w
theorem TyAt.agg_run {T : Nat} (h : TyAt P ty T) (ho : (ty T).k.isOther = false) (w : World) : (isAgg T).run P w = .ok (ty T).agg w := by
  have hu := h.und
  unfold isAgg TI.agg
  cases hk : (ty T).k <;> rw [hk] at hu ho <;> simp only [TK.fits, TK.isOther] at hu ho <;> first
    | (simp [run_underlying hu]; done)
    | (obtain ⟨_, _, _, hu⟩ := hu; simp [run_underlying hu]; done)
    | (obtain ⟨_, hu, _⟩ := hu; simp [run_underlying hu]; done)
    | (simp at ho; done)
theorem TyAt.size_run {T : Nat} (h : TyAt P ty T) (w : World) : (sizeOf T).run P w = .ok (ty T).sz w := by
  obtain ⟨i, z, hi, hs, _⟩ := h.info
  simp [sizeOf, typeInfo, hi, hs]
theorem TyAt.info_run {T : Nat} (h : TyAt P ty T) (w : World) : ∃ i z, P.info? T = some i ∧ (typeInfo T).run P w = .ok i w ∧ i.size = (ty T).sz ∧ i.bytes = (ty T).by_ ∧ i.zero = some z ∧ ZeroIs (ty T) z ∧ (zeroValue T).run P w = .ok z w := by
  obtain ⟨i, z, hi, hs, hb, hz, hz'⟩ := h.info
  exact ⟨i, z, hi, by simp [typeInfo, hi], hs, hb, hz, hz', by simp [zeroValue, typeInfo, hi, hz]⟩

/-! ### lists of cells -/
theorem ldrop_is {ρ : Env} {hP : HL} : ∀ {n : Nat} {l r : List SV} {vs : List Value}, ldrop n l = some r → SV.isL ρ hP l vs → SV.isL ρ hP r (vs.drop n) ∧ n ≤ vs.length
  | 0, l, r, vs, h, hv => by simp only [ldrop, Option.some.injEq] at h; subst h; simpa using hv
  | n + 1, [], r, vs, h, hv => by simp [ldrop] at h
  | n + 1, _ :: l, r, vs, h, hv => by
    obtain ⟨u, us, rfl, _, h2⟩ := hv
    obtain ⟨h3, h4⟩ := ldrop_is (n := n) (by simpa [ldrop] using h) h2
    simpa using ⟨h3, h4⟩
theorem ltake_is {ρ : Env} {hP : HL} : ∀ {n : Nat} {l r : List SV} {vs : List Value}, ltake n l = some r → SV.isL ρ hP l vs → SV.isL ρ hP r (vs.take n) ∧ n ≤ vs.length ∧ r.length = n
  | 0, l, r, vs, h, hv => by simp only [ltake, Option.some.injEq] at h; subst h; exact ⟨rfl, Nat.zero_le _, rfl⟩
  | n + 1, [], r, vs, h, hv => by simp [ltake] at h
  | n + 1, x :: l, r, vs, h, hv => by
    obtain ⟨u, us, rfl, h1, h2⟩ := hv
    simp only [ltake] at h
    split at h
    · rename_i r' hr
      simp only [Option.some.injEq] at h
      subst h
      obtain ⟨h3, h4, h5⟩ := ltake_is hr h2
      exact ⟨⟨u, us.take n, rfl, h1, h3⟩, by simpa using h4, by simp [h5]⟩
    · simp at h
theorem lslice_is {ρ : Env} {hP : HL} {off n : Nat} {l r : List SV} {vs : List Value} (h : lslice off n l = some r) (hv : SV.isL ρ hP l vs) :
    SV.isL ρ hP r ((vs.drop off).take n) ∧ off + n ≤ vs.length ∧ r.length = n := by
  unfold lslice at h
  split at h
  · rename_i r' hr
    obtain ⟨h1, h2⟩ := ldrop_is hr hv
    obtain ⟨h3, h4, h5⟩ := ltake_is h h1
    exact ⟨h3, by simp at h4; omega, h5⟩
  · cases h

/-- Loading a variable whose cells are known. -/
theorem load_cells {ρ : Env} {hP : HL} {T : Nat} (hT : TyAt P ty T) (ho : (ty T).k.isOther = false) {w : World} {b off : Nat} {ss : List SV} {vs : List Value} (hl : vs.length = (ty T).sz)
    (hc : ∀ j u, vs[j]? = some u → w.cell? ⟨b, off + j, none⟩ = some u) (hs : SV.isL ρ hP ss vs) : ∃ v, (loadVar T ⟨b, off, none⟩).run P w = .ok v w ∧ (pack (ty T) ss).is ρ hP v := by
  unfold loadVar pack
  simp only [Sem.run_bind, hT.agg_run ho, Result.andThen_ok]
  cases hag : (ty T).agg with
  | true =>
    have hrun := run_loadCells_list (P := P) w ⟨b, off, none⟩ vs (fun j u hu => by rw [addr_add]; exact hc j u hu)
    rw [hl] at hrun
    refine ⟨.agg vs.toArray, ?_, ⟨_, rfl, by simpa using hs⟩⟩
    simp [hT.size_run, hrun]
  | false =>
    obtain ⟨i, z, _, _, _, _, _, hz, _⟩ := hT.info_run (ty := ty) w
    have hz1 := hz.2.2.2 hag
    have hz2 := hz.2.1
    rw [hz1] at hz2
    have h1 : vs.length = 1 := by rw [hl, ← hz2]; rfl
    match vs, h1 with
    | [u], _ =>
      have hc0 := hc 0 u rfl
      rw [Nat.add_zero] at hc0
      match ss, hs with
      | [x], ⟨u', us, he, hx, hr⟩ =>
        simp only [List.cons.injEq] at he
        obtain ⟨rfl, rfl⟩ := he
        exact ⟨u, by simp [hc0], hx⟩
      | x :: y :: r, ⟨u', us, he, hx, hr⟩ =>
        simp only [List.cons.injEq] at he
        obtain ⟨rfl, rfl⟩ := he
        obtain ⟨_, _, h, _⟩ := hr
        cases h
      | [], h => cases h

theorem tab_is {ρ : Env} {hP : HL} (g : Nat → PV) : ∀ (n j : Nat) (vs : List Value), vs.length = n → (∀ i u, vs[i]? = some u → (g (j + i)).is hP u) → SV.isL ρ hP (tab g j n) vs
  | 0, j, vs, hl, _ => List.eq_nil_of_length_eq_zero hl
  | n + 1, j, vs, hl, h => by
    match vs, hl with
    | u :: us, hl =>
      refine ⟨u, us, rfl, (by simpa using h 0 u rfl : (g j).is hP u), tab_is g n (j + 1) us (by simpa using hl) (fun i u' hu => ?_)⟩
      have := h (i + 1) u' (by simpa using hu)
      rwa [show j + 1 + i = j + (i + 1) by omega]

/-- Cells given one by one, as a list. -/
theorem list_of_cells {w : World} {b off n : Nat} {Q : Nat → Value → Prop} (h : ∀ j, j < n → ∃ u, w.cell? ⟨b, off + j, none⟩ = some u ∧ Q j u) :
    ∃ vs : List Value, vs.length = n ∧ (∀ j u, vs[j]? = some u → w.cell? ⟨b, off + j, none⟩ = some u) ∧ (∀ j u, vs[j]? = some u → Q j u) := by
  induction n with
  | zero => exact ⟨[], rfl, by simp, by simp⟩
  | succ n ih =>
    obtain ⟨vs, h1, h2, h3⟩ := ih (fun j hj => h j (by omega))
    obtain ⟨u, h4, h5⟩ := h n (by omega)
    refine ⟨vs ++ [u], by simp [h1], fun j u' hu => ?_, fun j u' hu => ?_⟩
    all_goals
      rw [List.getElem?_append] at hu
      split at hu
      · first | exact h2 j u' hu | exact h3 j u' hu
      · have hj : j = n := by
          rcases Nat.lt_or_ge (j - vs.length) 1 with hlt | hge
          · omega
          · rw [List.getElem?_eq_none (by simpa using hge)] at hu; cases hu
        subst hj
        simp [h1] at hu
        subst hu
        first | exact h4 | exact h5

theorem sound_load {T : Nat} {x : Operand} (hT : TyOK P ty) (ho : o.op = .load T x) (h : opLoad (ty T) H (ev tm x) = .ok p s rd wr) (hp : p) : OpOK P o tm H s rd wr := by
  unfold opLoad at h
  split at h
  · cases h
  rename_i hoth
  have ht := hT T hoth
  have key : ∀ ρ own w (a : Act) b off ss vs, a.eval x = .pointer (some ⟨b, off, none⟩) → vs.length = (ty T).sz → (∀ j u, vs[j]? = some u → w.cell? ⟨b, off + j, none⟩ = some u) → SV.isL ρ (view own 0 w) ss vs →
      ∃ v, (execOp a.eval o).run P w = .ok (.value v) w ∧ (pack (ty T) ss).is ρ (view own 0 w) v := by
    intro ρ own w a b off ss vs he hl hc hs
    obtain ⟨v, hr, hv⟩ := load_cells ht hoth hl hc hs
    exact ⟨v, by simp [execOp, ho, Instr.loadAt, he, Instr.sureAddr, hr], hv⟩
  split at h
  · rename_i C off hx
    split at h
    · rename_i T' l hl
      split at h
      · rename_i r hr
        simp only [Res.ok.injEq] at h
        obtain ⟨rfl, rfl, rfl, rfl⟩ := h
        refine OpOK.pure fun ρ own w a hop hs => ?_
        obtain ⟨L, hL, hev⟩ := (by simpa [hx] using hop x (by simp [ho, Op.operands]) : (SV.p C off).is ρ (view own 0 w) (a.eval x))
        have hsat := hs C (by simp)
        rw [hl] at hsat
        obtain ⟨L', arr, hL', hoff, hcap, hb, his⟩ := hsat
        obtain rfl : L = L' := by rw [hL] at hL'; simpa using hL'
        obtain ⟨h1, h2, h3⟩ := lslice_is hr his
        refine key ρ own w a L.blk (L.off + off) r ((arr.toList.drop off).take (ty T).sz) hev (by simp at h2 ⊢; omega) (fun j u hu => ?_) h1
        rw [cell_of_heap (view_heap hb), hoff]
        rw [List.getElem?_take] at hu
        split at hu
        · rw [List.getElem?_drop] at hu
          simpa using hu
        · cases hu
      · cases h
    · cases h
  · rename_i C k j hx
    split at h
    · rename_i T' sz n f hl
      simp only [Res.ok.injEq] at h
      obtain ⟨rfl, rfl, rfl, rfl⟩ := h
      refine OpOK.pure fun ρ own w a hop hs => ?_
      obtain ⟨L, hL, hev⟩ := (by simpa [hx] using hop x (by simp [ho, Op.operands]) : (SV.q C k j).is ρ (view own 0 w) (a.eval x))
      have hsat := hs C (by simp)
      rw [hl] at hsat
      obtain ⟨L', hL', hsz, hn, hcap, hrest⟩ := hsat
      obtain rfl : L = L' := by rw [hL] at hL'; simpa using hL'
      obtain ⟨arr, fr, hb, hfit, _, hcells⟩ := hrest (by omega)
      obtain ⟨vs, hv1, hv2, hv3⟩ := list_of_cells (w := w) (b := L.blk) (off := L.off + (k * L.sz + j)) (n := (ty T).sz) (Q := fun i u => (f k (j + i)).is (view own 0 w) u) (fun i hi => by
        obtain ⟨u, hu, hf⟩ := hcells k hp.1 (j + i) (by omega)
        refine ⟨u, ?_, hf⟩
        rw [cell_of_heap (view_heap hb), ← hu, hsz]
        congr 1
        omega)
      exact key ρ own w a L.blk _ _ vs hev hv1 hv2 (tab_is (f k) _ j vs hv1 hv3)
    · cases h
  · rename_i n g hx
    simp only [Res.ok.injEq] at h
    obtain ⟨rfl, rfl, rfl, rfl⟩ := h
    refine OpOK.pure fun ρ own w a hop hs => ?_
    obtain ⟨blk, off, hev, hg⟩ := (by simpa [hx] using hop x (by simp [ho, Op.operands]) : (SV.pe n g).is ρ (view own 0 w) (a.eval x))
    obtain ⟨vs, hv1, hv2, hv3⟩ := list_of_cells (w := w) (b := blk) (off := off) (n := (ty T).sz) (Q := fun i u => (g i).is (view own 0 w) u) (fun i hi => by
      obtain ⟨u, hu, hf⟩ := hg i (by omega)
      exact ⟨u, cell_of_hcell hu, hf⟩)
    exact key ρ own w a blk off _ vs hev hv1 hv2 (tab_is g _ 0 vs hv1 (by simpa using hv3))
  · cases h

theorem sound_val {x : Operand} (ho : o.op = .move x ∨ o.op = .assign x) : OpOK P o tm H (ev tm x) [] [] :=
  OpOK.pure fun ρ own w a hop _ => by
    rcases ho with ho | ho
    · exact ⟨a.eval x, by simp [execOp, ho], hop x (by simp [ho, Op.operands])⟩
    · exact ⟨a.eval x, by simp [execOp, ho], hop x (by simp [ho, Op.operands])⟩

theorem sound_pick {c x y : Operand} (ho : o.op = .pick c x y) (h : opPick (ev tm c) (ev tm x) (ev tm y) = .ok p s rd wr) : OpOK P o tm H s rd wr := by
  unfold opPick at h
  split at h
  · rename_i hc
    simp only [Res.ok.injEq] at h
    obtain ⟨_, rfl, rfl, rfl⟩ := h
    refine OpOK.pure fun ρ own w a hop _ => ?_
    have h1 : a.eval c = .bool true := (by simpa [hc] using hop c (by simp [ho, Op.operands]) : (SV.c (.b true)).is ρ (view own 0 w) (a.eval c))
    exact ⟨a.eval x, by simp [execOp, ho, h1, asBool], hop x (by simp [ho, Op.operands])⟩
  · rename_i hc
    simp only [Res.ok.injEq] at h
    obtain ⟨_, rfl, rfl, rfl⟩ := h
    refine OpOK.pure fun ρ own w a hop _ => ?_
    have h1 : a.eval c = .bool false := (by simpa [hc] using hop c (by simp [ho, Op.operands]) : (SV.c (.b false)).is ρ (view own 0 w) (a.eval c))
    exact ⟨a.eval y, by simp [execOp, ho, h1, asBool], hop y (by simp [ho, Op.operands])⟩
  · cases h

theorem sound_nil {x : Operand} (ho : o.op = .nilCheck x) (h : opNil (ev tm x) = .ok p s rd wr) : OpOK P o tm H s rd wr := by
  have key : ∀ s', ev tm x = s' → (∀ ρ hP v, s'.is ρ hP v → (∃ a, v = .pointer (some a)) ∨ ∃ f l, v = .func (.func f) #[] l) → OpOK P o tm H s' [] [] := by
    intro s' hx hv
    refine OpOK.pure fun ρ own w a hop _ => ?_
    have h1 := hop x (by simp [ho, Op.operands])
    rw [hx] at h1
    refine ⟨a.eval x, ?_, h1⟩
    rcases hv _ _ _ h1 with ⟨_, he⟩ | ⟨_, _, he⟩ <;> simp [execOp, ho, he]
  unfold opNil at h
  split at h
  case h_5 => cases h
  all_goals
    rename_i hx
    simp only [Res.ok.injEq] at h
    obtain ⟨_, rfl, rfl, rfl⟩ := h
    refine key _ hx fun ρ hP v h1 => ?_
  · obtain ⟨_, _, he⟩ := h1; exact .inl ⟨_, he⟩
  · obtain ⟨_, _, he⟩ := h1; exact .inl ⟨_, he⟩
  · obtain ⟨_, _, he, _⟩ := h1; exact .inl ⟨_, he⟩
  · obtain ⟨_, he, _⟩ := h1; exact .inr ⟨_, _, he⟩

theorem sound_extract {x : Operand} {i : Nat} (ho : o.op = .extract x i) (h : opExtract (ev tm x) i = .ok p s rd wr) : OpOK P o tm H s rd wr := by
  unfold opExtract at h
  split at h
  · rename_i l hx
    split at h
    · rename_i r hr
      simp only [Res.ok.injEq] at h
      obtain ⟨_, rfl, rfl, rfl⟩ := h
      refine OpOK.pure fun ρ own w a hop _ => ?_
      obtain ⟨vs, he, hl⟩ := (by simpa [hx] using hop x (by simp [ho, Op.operands]) : (SV.t l).is ρ (view own 0 w) (a.eval x))
      rw [nth_eq] at hr
      have hlen := isL_length hl
      have hi : i < vs.toList.length := by rw [hlen]; exact (List.getElem?_eq_some_iff.1 hr).1
      obtain ⟨s', hs', his⟩ := isL_get hl (List.getElem?_eq_getElem hi)
      rw [hr] at hs'
      obtain rfl : r = s' := by simpa using hs'
      refine ⟨vs.toList[i], ?_, his⟩
      have hi' : i < vs.size := by simpa using hi
      simp [execOp, ho, he, Instr.extract, hi']
    · cases h
  · cases h

theorem field_of {T f off e : Nat} {fs : List (Nat × Nat)} (hT : TyOK P ty) (hk : (ty T).k = .st fs) (hf : nth fs f = some (off, e)) :
    ∃ fields fd, P.underlying T = some (.struct fields) ∧ fields[f]? = some fd ∧ fd.offset = off ∧ fd.type = e := by
  have ht := hT T (by rw [hk]; rfl)
  obtain ⟨fields, hu, hfs⟩ := (by simpa [hk] using ht.und : TK.fits P T (.st fs))
  rw [nth_eq, ← hfs, List.getElem?_map, Option.map_eq_some_iff] at hf
  obtain ⟨fd, h1, h2⟩ := hf
  simp only [Prod.mk.injEq] at h2
  exact ⟨fields, fd, hu, by simpa using h1, h2.1, h2.2⟩

theorem sound_fieldAddr {T f : Nat} {x : Operand} (hT : TyOK P ty) (ho : o.op = .fieldAddr T x f) (h : opFieldAddr ty T f (ev tm x) = .ok p s rd wr) (hp : p) : OpOK P o tm H s rd wr := by
  unfold opFieldAddr at h
  split at h
  · rename_i fs hk
    split at h
    · rename_i off e hf
      split at h
      · cases h
      rename_i hsz
      obtain ⟨fields, fd, hu, hfd, rfl, rfl⟩ := field_of hT hk hf
      have hpl : ∀ (w : World) (b o : Nat), (fieldPlace ⟨b, o, none⟩ fd).run P w = .ok ⟨b, o + fd.offset, none⟩ w := by
        intro w b o
        have hoth : (ty fd.type).k.isOther = false := by cases h : (ty fd.type).k.isOther <;> simp_all
        have := (hT fd.type hoth).size_run (ty := ty) w
        have hz : (ty fd.type).sz ≠ 0 := fun h => hsz (.inr h)
        simp [fieldPlace, this, hz, addr_add]
      have key : ∀ (w : World) (a : Act) b q, a.eval x = .pointer (some ⟨b, q, none⟩) → (execOp a.eval o).run P w = .ok (.value (.pointer (some ⟨b, q + fd.offset, none⟩))) w := by
        intro w a b q he
        simp [execOp, ho, Instr.fieldAt, run_underlying hu, hfd, he, Instr.sureAddr, hpl]
      split at h
      case h_4 => cases h
      all_goals
        rename_i hx
        simp only [Res.ok.injEq] at h
        obtain ⟨rfl, rfl, rfl, rfl⟩ := h
        refine OpOK.pure fun ρ own w a hop _ => ?_
        have h1 := hop x (by simp [ho, Op.operands])
        rw [hx] at h1
      · obtain ⟨L, hL, he⟩ := h1
        exact ⟨_, key w a _ _ he, ⟨L, hL, by simp [Nat.add_assoc]⟩⟩
      · obtain ⟨L, hL, he⟩ := h1
        exact ⟨_, key w a _ _ he, ⟨L, hL, by simp [Nat.add_assoc]⟩⟩
      · obtain ⟨blk, q, he, hg⟩ := h1
        refine ⟨_, key w a _ _ he, ⟨blk, q + fd.offset, rfl, fun j hj => ?_⟩⟩
        obtain ⟨u, hu', hgu⟩ := hg (fd.offset + j) (by omega)
        exact ⟨u, by rw [Nat.add_assoc]; exact hu', hgu⟩
    · cases h
  · cases h
end
end Go.Proofs.Ytladpdndjcgebaa.Sx
