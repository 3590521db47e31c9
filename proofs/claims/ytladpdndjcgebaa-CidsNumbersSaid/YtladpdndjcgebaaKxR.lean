/- The machine's run over a region's operations, in the order of the text and in a drawn one. -/
import Derived.Test.YtladpdndjcgebaaKxQ
namespace Go.Proofs.Ytladpdndjcgebaa.Kx
set_option linter.unusedVariables false
open Go Go.Proofs.Ytladpdndjcgebaa.Sx

def RjOK (P : Program) (ty : Ty) (fi : FI) (rj : Rj) : Prop := ∀ k t H s H', H.n ≤ 262143 → rj k t H = .ret s H' → Ends P ty fi k t H s H'
def FBOK (P : Program) (ty : Ty) (fi : FI) (k : List It) (b : FB) : Prop := ∀ rc rj, RcOK P ty rc → RjOK P ty fi rj → ∀ t H s H', H.n ≤ 262143 → b.g rc rj t H = .ret s H' → Ends P ty fi k t H s H'
/-- The rest of a region's operations, in the order of the text. -/
def LBOK (P : Program) (ty : Ty) (fi : FI) (all l : List Oper) (k : List It) (b : FB) : Prop := ∀ rc rj, RcOK P ty rc → RjOK P ty fi rj → ∀ t H s H', H.n ≤ 262143 → b.g rc rj t H = .ret s H' →
  H.n ≤ H'.n ∧ H'.n ≤ 262143 ∧ ∀ E, EOK P ty fi s H' E → MO E none all l k (tl fi.nt t) (hl H)

section
variable {P : Program} {ty : Ty} {fi : FI} {all l : List Oper} {k : List It}

theorem fbrec {α : Type} (f : (Rc → Rj → N3 → CH → EX) → α) (b : FB) : (FB.rec (motive := fun _ => α) f b : α) = f b.g := rfl
theorem ebrec {α : Type} (f : (Rc → Rj → List Ft → N3 → CH → EX) → α) (b : EB) : (EB.rec (motive := fun _ => α) f b : α) = f b.g := rfl
theorem obrec {α : Type} (f : (KK → N3 → CH → EX) → α) (b : OB) : (OB.rec (motive := fun _ => α) f b : α) = f b.g := rfl
theorem goB_eq (b : FB) (rc : Rc) (rj : Rj) (H : CH) (t : N3) : goB b rc rj H t = b.g rc rj t H := rfl
theorem goE_eq (b : EB) (rc : Rc) (rj : Rj) (fp : List Ft) (H : CH) (t : N3) : goE b rc rj fp H t = b.g rc rj fp t H := rfl

/-- What an operation is. -/
theorem isCall_spec (nt : Nat) (o : Oper) : (∃ c g, o.op = .call c ∧ c.callee = .value g ∧ isCall nt o.op = .call (gb nt g).g c.args.toList) ∨ isCall nt o.op = .op := by
  unfold isCall
  split
  · rename_i c hc
    split
    · rename_i g hg
      exact .inl ⟨c, g, hc, hg, rfl⟩
    · exact .inr rfl
  · exact .inr rfl

/-- The guard, as the machine and as the symbolic machine see it. -/
theorem grB_no {o : Oper} {tm : List SV} (h : grB all o = .no) : wantS all tm o = some true := by
  unfold grB at h
  unfold wantS
  split at h
  · rename_i hg; rw [hg]
  · split at h
    · split at h <;> cases h
    · cases h
theorem grB_g {o : Oper} {tm : List SV} {d : Nat} {b : Bool} (h : grB all o = .g d b) : wantS all tm o = match lget tm d with
        | .c (.b e) => some (e == b)
        | .t [] => some false
        | _ => none := by
  unfold grB at h
  unfold wantS
  split at h
  · cases h
  · rename_i j t hg
    rw [hg]
    simp only
    split at h
    · rename_i oj hj
      simp only [hj]
      split at h
      · rename_i d' hd
        simp only [GrB.g.injEq] at h
        obtain ⟨rfl, rfl⟩ := h
        simp only [hd]
        rfl
      · cases h
    · cases h
theorem bEq_beq (a b : Bool) : bEq a b = (a == b) := by cases a <;> cases b <;> rfl

/-- A step in the order of the text. -/
theorem ko1_ok (hT : TyOK P ty) (hm : P.follows .mixedOrders = true) (h512 : fi.nt ≤ 512) {o : Oper} {next : FB} (hnext : LBOK P ty fi all l k next) {rc : Rc} {rj : Rj} (hrc : RcOK P ty rc) (hrj : RjOK P ty fi rj) {t : N3} {H H' : CH} {s : SV} (hn : H.n ≤ 262143)
    (h : (ko1 P ty fi.nt o next).g rc rj t H = .ret s H') (hw : wantS all (tl fi.nt t) o = some true) : H.n ≤ H'.n ∧ H'.n ≤ 262143 ∧ ∀ E, EOK P ty fi s H' E → MO E none all (o :: l) k (tl fi.nt t) (hl H) := by
  unfold ko1 at h
  rcases isCall_spec fi.nt o with ⟨c, g, ho, hc, hi⟩ | hi
  · rw [hi] at h
    have h : (gb fi.nt g).g t (fun f => onFn f fun f caps => gvsK fi.nt t c.args.toList fun l => onRet (callK P rc f (l ++ caps) H) fun v H' => (sb fi.nt o.dst).g v t (goB next rc rj H')) = .ret s H' := h
    rw [gb_eq] at h
    obtain ⟨f, caps, hev, h1⟩ := onFn_ret h
    rw [gvsK_eq] at h1
    obtain ⟨v, H1, h2, h3⟩ := onRet_ret h1
    rw [sb_eq, goB_eq] at h3
    obtain ⟨e1, e2, e3⟩ := callK_spec hT hm hrc hn h2
    obtain ⟨f1, f2, f3⟩ := hnext rc rj hrc hrj _ _ _ _ e2 h3
    refine ⟨Nat.le_trans e1 f1, f2, fun E hE => ?_⟩
    have f4 := f3 E hE
    rw [tl_tput _ h512] at f4
    exact call_straight hw ho hc hev (by rw [hE.hP]; exact e3) (by rw [hlen_hl, hlen_hl]; exact e1) f4
  · rw [hi] at h
    have h : (oOp fi.nt ty o.op).g (fun v _ wr => hwK wr (fun H' => (sb fi.nt o.dst).g v t (goB next rc rj H')) H) t H = .ret s H' := h
    obtain ⟨v, rd, wr, h1, h2, h3⟩ := oOp_ok (o := o) hT _ _ _ _ _ hn h
    rw [hwK_eq, sb_eq, goB_eq] at h3
    obtain ⟨e1, e2, e3⟩ := hl_hws wr H hn h2
    obtain ⟨f1, f2, f3⟩ := hnext rc rj hrc hrj _ _ _ _ e2 h3
    refine ⟨Nat.le_trans e3 f1, f2, fun E hE => ?_⟩
    have f4 := f3 E hE
    rw [tl_tput _ h512, e1] at f4
    exact MO.step (d := none) hw (by rw [hE.hP]; exact h1) f4

theorem ko_ok (hT : TyOK P ty) (hm : P.follows .mixedOrders = true) (h512 : fi.nt ≤ 512) {o : Oper} {next : FB} (hnext : LBOK P ty fi all l k next) : LBOK P ty fi all (o :: l) k (ko P ty fi.nt all o next) := by
  intro rc rj hrc hrj t H s H' hn h
  unfold ko at h
  split at h
  · rename_i hg
    exact ko1_ok hT hm h512 hnext hrc hrj hn h (grB_no hg)
  · cases h
  · rename_i d b hg
    have h : gvK fi.nt (.tmp d) t (fun x => onG x (fun e => ifB (bEq e b) ((ko1 P ty fi.nt o next).g rc rj t H) ((sb fi.nt o.dst).g undefS t (goB next rc rj H))) ((sb fi.nt o.dst).g undefS t (goB next rc rj H))) = .ret s H' := h
    rw [gvK_eq] at h
    have hw := grB_g (tm := tl fi.nt t) hg
    have skip : (sb fi.nt o.dst).g undefS t (goB next rc rj H) = .ret s H' → wantS all (tl fi.nt t) o = some false → H.n ≤ H'.n ∧ H'.n ≤ 262143 ∧ ∀ E, EOK P ty fi s H' E → MO E none all (o :: l) k (tl fi.nt t) (hl H) := by
      intro h1 hw
      rw [sb_eq, goB_eq] at h1
      obtain ⟨f1, f2, f3⟩ := hnext rc rj hrc hrj _ _ _ _ hn h1
      refine ⟨f1, f2, fun E hE => ?_⟩
      have f4 := f3 E hE
      rw [tl_tput _ h512] at f4
      exact MO.skip (d := none) hw f4
    rcases onG_ret h with ⟨e, hx, h1⟩ | ⟨hx, h1⟩
    · have hx : lget (tl fi.nt t) d = .c (.b e) := hx
      rw [hx] at hw
      simp only at hw
      rw [bEq_beq, ifB_eq] at h1
      split at h1
      · rename_i he
        rw [he] at hw
        exact ko1_ok hT hm h512 hnext hrc hrj hn h1 hw
      · rename_i he
        simp only [Bool.not_eq_true] at he
        rw [he] at hw
        exact skip h1 hw
    · have hx : lget (tl fi.nt t) d = .t [] := hx
      rw [hx] at hw
      exact skip h1 hw

theorem kl_ok (hT : TyOK P ty) (hm : P.follows .mixedOrders = true) (h512 : fi.nt ≤ 512) {b : FB} (hb : LBOK P ty fi all [] k b) : ∀ l, LBOK P ty fi all l k (kl P ty fi.nt all l b)
  | [] => hb
  | o :: l => ko_ok hT hm h512 (kl_ok hT hm h512 hb l)
theorem LBOK_nil {b : FB} (hb : FBOK P ty fi k b) : LBOK P ty fi all [] k b := by
  intro rc rj hrc hrj t H s H' hn h
  obtain ⟨f1, f2, f3⟩ := hb rc rj hrc hrj t H s H' hn h
  exact ⟨f1, f2, fun E hE s0 ρ own a w hst => ⟨rfl, f3 E hE s0 ρ own a w hst⟩⟩

/-! ### draws -/
/-- The footprints of the operations so far, the newest first. -/
noncomputable def fpOf : List Rec → List Ft := fun done => (done.reverse).rec (motive := fun _ => List Ft) [] fun r l ih => pushF l.length r.rd (wnames r.wr) ih
theorem fpOf_snoc (done : List Rec) (r : Rec) : fpOf (done ++ [r]) = pushF done.length r.rd (wnames r.wr) (fpOf done) := by
  unfold fpOf
  rw [List.reverse_append]
  show pushF done.reverse.length r.rd (wnames r.wr) _ = _
  rw [List.length_reverse]
  rfl
theorem isNil_iff {α : Type} {l : List α} : isNil l = true ↔ l = [] := by cases l <;> simp [isNil]
theorem pushF_eq (i : Nat) (rd wr : List Nat) (l : List Ft) : pushF i rd wr l = if rd = [] ∧ wr = [] then l else ⟨i, rd, wr⟩ :: l := by
  unfold pushF
  rw [ifB_eq]
  simp only [Bool.and_eq_true, isNil_iff]

theorem memN_iff {l : List Nat} {c : Nat} : memN l c = true ↔ c ∈ l := by
  induction l with
  | nil => simp [memN, anyN]
  | cons x l ih =>
    show ifB (Nat.beq x c) true (memN l c) = true ↔ _
    rw [ifB_eq]
    simp only [Nat.beq_eq, List.mem_cons]
    split
    · rename_i h; simp [h]
    · rename_i h
      rw [ih]
      constructor
      · exact .inr
      · rintro (h1 | h1)
        · exact (h h1.symm).elim
        · exact h1
theorem meets_clash {x y : Ft} {a b : FP} (hw : a.wr = x.wr) (hw' : b.wr = y.wr) (hr : b.rd = y.rd) (h : meets x y = false) : clash a b = false := by
  unfold clash
  rw [hw, hw', hr]
  unfold meets at h
  generalize x.wr = l at h
  induction l with
  | nil => rfl
  | cons c l ih =>
    have h : ifB (ifB (memN y.wr c) true (memN y.rd c)) true (anyN (fun c => ifB (memN y.wr c) true (memN y.rd c)) l) = false := h
    rw [ifB_eq] at h
    rw [List.any_cons]
    split at h
    · cases h
    · rename_i h1
      rw [ifB_eq] at h1
      rw [ih h, Bool.or_false]
      cases h2 : memN y.wr c
      · cases h3 : memN y.rd c
        · have e1 : y.wr.contains c = false := by
            cases h4 : y.wr.contains c
            · rfl
            · rw [List.contains_iff_mem, ← memN_iff, h2] at h4; cases h4
          have e2 : y.rd.contains c = false := by
            cases h4 : y.rd.contains c
            · rfl
            · rw [List.contains_iff_mem, ← memN_iff, h3] at h4; cases h4
          rw [e1, e2]; rfl
        · simp [h2, h3] at h1
      · simp [h2] at h1
theorem clash_nil_left {a b : FP} (h : a.wr = []) : clash a b = false := by unfold clash; rw [h]; rfl
theorem clash_nil_right {a b : FP} (h : b.wr = []) (h2 : b.rd = []) : clash a b = false := by
  unfold clash; rw [h, h2]
  simp

def pairs (b : List Nat) (done : List Rec) : Prop := ∀ i j x y, i < j → done[i]? = some x → done[j]? = some y → (b.getD j 0).testBit i = true ∨ (clash ⟨x.rd, wnames x.wr, x.run⟩ ⟨y.rd, wnames y.wr, y.run⟩ = false ∧ clash ⟨y.rd, wnames y.wr, y.run⟩ ⟨x.rd, wnames x.wr, x.run⟩ = false)

theorem allOK_mem {b : List Nat} {y : Ft} : ∀ {l : List Ft}, allOK b y l = true → ∀ x ∈ l, pairOK b x y = true
  | [], _, x, h => by cases h
  | z :: l, h, x, hx => by
    have h : ifB (pairOK b z y) (allOK b y l) false = true := h
    rw [ifB_eq] at h
    split at h
    · rename_i h1
      rcases List.mem_cons.1 hx with rfl | hx
      · exact h1
      · exact allOK_mem h x hx
    · cases h
theorem ft_pairs {b : List Nat} : ∀ (n : Nat) (done : List Rec), done.length = n → ftOK b (fpOf done) = true → pairs b done ∧ ∀ i x, done[i]? = some x → (x.rd = [] ∧ wnames x.wr = []) ∨ ⟨i, x.rd, wnames x.wr⟩ ∈ fpOf done
  | 0, done, hl, _ => by
    obtain rfl := List.length_eq_zero_iff.1 hl
    exact ⟨fun i j x y _ h => by simp at h, fun i x h => by simp at h⟩
  | n + 1, done, hl, h => by
    obtain ⟨init, r, rfl⟩ : ∃ init r, done = init ++ [r] := ⟨done.dropLast, done.getLast (by intro e; rw [e] at hl; cases hl), (List.dropLast_concat_getLast _).symm⟩
    have hl' : init.length = n := by simpa using hl
    rw [fpOf_snoc, pushF_eq] at h
    have hlast : ∀ j y, (init ++ [r])[j]? = some y → (j < init.length ∧ init[j]? = some y) ∨ (j = init.length ∧ y = r) := by
      intro j y hj
      rcases Nat.lt_or_ge j init.length with h1 | h1
      · rw [List.getElem?_append_left h1] at hj
        exact .inl ⟨h1, hj⟩
      · rw [List.getElem?_append_right h1] at hj
        have : j - init.length = 0 := by
          rcases Nat.eq_zero_or_pos (j - init.length) with h2 | h2
          · exact h2
          · rw [List.getElem?_eq_none (by simp; omega)] at hj; cases hj
        rw [this] at hj
        simp only [List.getElem?_cons_zero, Option.some.injEq] at hj
        exact .inr ⟨by omega, hj.symm⟩
    by_cases hr : r.rd = [] ∧ wnames r.wr = []
    · rw [if_pos hr] at h
      obtain ⟨h1, h2⟩ := ft_pairs n init hl' h
      refine ⟨fun i j x y hij hi hj => ?_, fun i x hi => ?_⟩
      · rcases hlast j y hj with ⟨hj1, hj2⟩ | ⟨rfl, rfl⟩
        · rw [List.getElem?_append_left (by omega)] at hi
          exact h1 i j x y hij hi hj2
        · exact .inr ⟨clash_nil_right hr.2 hr.1, clash_nil_left hr.2⟩
      · rw [fpOf_snoc, pushF_eq, if_pos hr]
        rcases hlast i x hi with ⟨hj1, hj2⟩ | ⟨rfl, rfl⟩
        · exact h2 i x hj2
        · exact .inl hr
    · rw [if_neg hr] at h
      have h : ifB (allOK b ⟨init.length, r.rd, wnames r.wr⟩ (fpOf init)) (ftOK b (fpOf init)) false = true := h
      rw [ifB_eq] at h
      split at h
      · rename_i h0
        obtain ⟨h1, h2⟩ := ft_pairs n init hl' h
        refine ⟨fun i j x y hij hi hj => ?_, fun i x hi => ?_⟩
        · rcases hlast j y hj with ⟨hj1, hj2⟩ | ⟨rfl, rfl⟩
          · rw [List.getElem?_append_left (by omega)] at hi
            exact h1 i j x y hij hi hj2
          · rw [List.getElem?_append_left hij] at hi
            rcases h2 i x hi with ⟨h3, h4⟩ | h3
            · exact .inr ⟨clash_nil_left h4, clash_nil_right h4 h3⟩
            · have h4 := allOK_mem h0 _ h3
              unfold pairOK at h4
              simp only [ifB_eq, Bool.and_eq_true, isNil_iff] at h4
              split at h4
              · rename_i h5
                exact .inr ⟨clash_nil_left h5.1, clash_nil_left h5.2⟩
              · split at h4
                · rename_i h6; exact .inl h6
                · split at h4
                  · cases h4
                  · rename_i h7
                    simp only [Bool.not_eq_true'] at h4
                    simp only [Bool.not_eq_true] at h7
                    exact .inr ⟨meets_clash (x := ⟨i, x.rd, wnames x.wr⟩) (y := ⟨init.length, y.rd, wnames y.wr⟩) rfl rfl rfl h7, meets_clash (x := ⟨init.length, y.rd, wnames y.wr⟩) (y := ⟨i, x.rd, wnames x.wr⟩) rfl rfl rfl h4⟩
        · rw [fpOf_snoc, pushF_eq, if_neg hr]
          rcases hlast i x hi with ⟨hj1, hj2⟩ | ⟨rfl, rfl⟩
          · rcases h2 i x hj2 with h3 | h3
            · exact .inl h3
            · exact .inr (List.mem_cons_of_mem _ h3)
          · exact .inr (List.mem_cons_self ..)
      · cases h

theorem apartL_at {A : Array Oper} {o : Oper} {b : Nat} : ∀ (l : List Oper) (i : Nat), apartL A o b l i = true → ∀ m x, l[m]? = some x → b.testBit (i + m) = true ∨ Oper.apart A x o = true
  | [], i, _, m, x, h => by simp at h
  | z :: l, i, h, m, x, hx => by
    have h : ifB (b.testBit i) (apartL A o b l (Nat.succ i)) (ifB (Oper.apart A z o) (apartL A o b l (Nat.succ i)) false) = true := h
    simp only [ifB_eq] at h
    have hr : apartL A o b l (Nat.succ i) = true := by
      split at h
      · exact h
      · split at h
        · exact h
        · cases h
    cases m with
    | zero =>
      simp only [List.getElem?_cons_zero, Option.some.injEq] at hx
      subst hx
      split at h
      · rename_i h1; exact .inl h1
      · split at h
        · rename_i h1; exact .inr h1
        · cases h
    | succ m =>
      have := apartL_at l (i + 1) hr m x (by simpa using hx)
      rwa [show i + 1 + m = i + (m + 1) by omega] at this
theorem apartA_at {A : Array Oper} {B : List Nat} : ∀ (l done : List Oper), apartA A B l done = true → ∀ m o, l[m]? = some o → apartL A o (B.getD (done.length + m) 0) (done ++ l.take m) 0 = true
  | [], _, _, m, o, h => by simp at h
  | z :: l, done, h, m, o, ho => by
    have h : ifB (apartL A z (B.getD done.length 0) done 0) (apartA A B l (done ++ [z])) false = true := h
    rw [ifB_eq] at h
    split at h
    · rename_i h1
      cases m with
      | zero =>
        simp only [List.getElem?_cons_zero, Option.some.injEq] at ho
        subst ho
        simpa using h1
      | succ m =>
        have := apartA_at l (done ++ [z]) h m o (by simpa using ho)
        simp only [List.length_append, List.length_singleton] at this
        rw [show done.length + (m + 1) = done.length + 1 + m by omega]
        simpa using this
    · cases h

theorem drDone_indep {done : List Rec} (hl : done.length = all.length) (h : drDone all (fpOf done) = true) : indep all (fps done) = true := by
  have h : ifB (edgesOK all && apartA all.toArray (befL all []) all []) (ftOK (befL all []) (fpOf done)) false = true := h
  rw [ifB_eq] at h
  split at h
  · rename_i h1
    rw [Bool.and_eq_true] at h1
    obtain ⟨hp, _⟩ := ft_pairs _ done rfl h
    unfold indep
    rw [Bool.and_eq_true]
    refine ⟨h1.1, ?_⟩
    unfold indepB
    simp only [List.all_eq_true, List.mem_range]
    intro j hj i hi
    unfold indepOf
    rw [Bool.or_eq_true]
    have hx : done[i]? = some done[i] := List.getElem?_eq_getElem (by omega)
    have hy : done[j]? = some done[j] := List.getElem?_eq_getElem (by omega)
    have hoi : all[i]? = some all[i] := List.getElem?_eq_getElem (by omega)
    have hoj : all[j]? = some all[j] := List.getElem?_eq_getElem hj
    have ha := apartL_at _ _ (apartA_at all [] h1.2 j _ hoj) i all[i] (by simp only [List.nil_append]; rw [List.getElem?_take, if_pos hi]; exact hoi)
    simp only [List.length_nil, Nat.zero_add] at ha
    rcases ha with ha | ha
    · exact .inl ha
    · rcases hp i j _ _ hi hx hy with hc | ⟨hc1, hc2⟩
      · exact .inl hc
      · right
        rw [fps_get, fps_get, hx, hy, hoi, hoj]
        simp only [Option.map_some, hc1, hc2, ha]
        rfl
  · cases h

/-- The rest of a region's operations, in a draw. -/
def EBOK (P : Program) (ty : Ty) (fi : FI) (all : List Oper) (i : Nat) (l : List Oper) (k : List It) (b : EB) : Prop := ∀ rc rj, RcOK P ty rc → RjOK P ty fi rj → ∀ fp t H s H', H.n ≤ 262143 → b.g rc rj fp t H = .ret s H' →
  H.n ≤ H'.n ∧ H'.n ≤ 262143 ∧ ∀ E, EOK P ty fi s H' E → ∀ dr : Dr, dr.done.length = i → fp = fpOf dr.done → MO E (some dr) all l k (tl fi.nt t) (hl H)

theorem wnC_eq : ∀ wr : List (Nat × CC), wnC wr = wnames (denW wr)
  | [] => rfl
  | x :: l => by
    show x.1 :: wnC l = _
    rw [wnC_eq l]
    rfl
theorem lessF_sub {b : Nat} : ∀ (fp : List Ft) (idx : List Nat) (c : Nat), c ∈ lessF b fp idx → c ∈ idx
  | [], idx, c, h => h
  | x :: l, idx, c, h => by
    have h : c ∈ ifB (b.testBit x.i) (lessF b l idx) (lessF b l (List.filter (fun c => !memN x.wr c) idx)) := h
    rw [ifB_eq] at h
    split at h
    · exact lessF_sub l idx c h
    · have := lessF_sub l _ c h
      exact (List.mem_filter.1 this).1

theorem eo1_ok (hT : TyOK P ty) (hm : P.follows .mixedOrders = true) (h512 : fi.nt ≤ 512) {o : Oper} {i : Nat} {next : EB} (hnext : EBOK P ty fi all (i + 1) l k next) {rc : Rc} {rj : Rj} (hrc : RcOK P ty rc) (hrj : RjOK P ty fi rj) {fp : List Ft} {t : N3} {H H' : CH} {s : SV} (hn : H.n ≤ 262143)
    (h : (eo1 P ty fi.nt i all o next).g rc rj fp t H = .ret s H') (hw : wantS all (tl fi.nt t) o = some true) : H.n ≤ H'.n ∧ H'.n ≤ 262143 ∧ ∀ E, EOK P ty fi s H' E → ∀ dr : Dr, dr.done.length = i → fp = fpOf dr.done → MO E (some dr) all (o :: l) k (tl fi.nt t) (hl H) := by
  have key : ∀ (v : SV) (rd : List Nat) (wr : List (Nat × CC)), OpOK P o (tl fi.nt t) (hl H) v rd (denW wr) → WrOK H.n wr → hwK wr (fun H' => (sb fi.nt o.dst).g v t (goE next rc rj (pushF i rd (wnC wr) fp) H')) H = .ret s H' →
      H.n ≤ H'.n ∧ H'.n ≤ 262143 ∧ ∀ E, EOK P ty fi s H' E → ∀ dr : Dr, dr.done.length = i → fp = fpOf dr.done → MO E (some dr) all (o :: l) k (tl fi.nt t) (hl H) := by
    intro v rd wr h1 h2 h3
    rw [hwK_eq, sb_eq, goE_eq] at h3
    obtain ⟨e1, e2, e3⟩ := hl_hws wr H hn h2
    obtain ⟨f1, f2, f3⟩ := hnext rc rj hrc hrj _ _ _ _ _ e2 h3
    refine ⟨Nat.le_trans e3 f1, f2, fun E hE dr hd hfp => ?_⟩
    have f4 := f3 E hE { dr with done := dr.done ++ [⟨v, rd, denW wr, true⟩] } (by simp [hd]) (by rw [fpOf_snoc, hd, hfp, wnC_eq])
    rw [tl_tput _ h512, e1] at f4
    exact MO.step (d := some dr) hw (by rw [hE.hP]; exact h1) f4
  unfold eo1 at h
  rcases isCall_spec fi.nt o with ⟨c, g, ho, hc, hi⟩ | hi
  · rw [hi] at h
    have h : (gb fi.nt g).g t (fun f => onFn f fun f caps => gvsK fi.nt t c.args.toList fun l => reachK H (fun acc => callD P rc f (l ++ caps) H acc (lessF (bfB all i) fp acc) fun v wr => hwK wr (fun H' => (sb fi.nt o.dst).g v t (goE next rc rj (pushF i [] (wnC wr) fp) H')) H) 100000 (namesL (l ++ caps) []) []) = .ret s H' := h
    rw [gb_eq] at h
    obtain ⟨f, caps, hev, h1⟩ := onFn_ret h
    rw [gvsK_eq] at h1
    obtain ⟨acc, h2, h3⟩ := reachK_ret _ _ _ h1
    obtain ⟨v, wr, h4, h5, h6⟩ := callD_ok hT hm hrc ho hc hev hn h2 (fun hlt => by
      obtain ⟨q1, _, q3⟩ := h3 _ hlt
      refine ⟨(namesL_bnd _ _ q1).1, fun c hc => ?_⟩
      rcases q3 c hc with h | h
      · cases h
      · rw [hget_hl]; exact h) (fun c hc => lessF_sub _ _ _ hc)
    exact key v [] wr h4 h5 h6
  · rw [hi] at h
    have h : (oOp fi.nt ty o.op).g (fun v rd wr => hwK wr (fun H' => (sb fi.nt o.dst).g v t (goE next rc rj (pushF i rd (wnC wr) fp) H')) H) t H = .ret s H' := h
    obtain ⟨v, rd, wr, h1, h2, h3⟩ := oOp_ok (o := o) hT _ _ _ _ _ hn h
    exact key v rd wr h1 h2 h3

theorem eo_ok (hT : TyOK P ty) (hm : P.follows .mixedOrders = true) (h512 : fi.nt ≤ 512) {o : Oper} {i : Nat} {next : EB} (hnext : EBOK P ty fi all (i + 1) l k next) : EBOK P ty fi all i (o :: l) k (eo P ty fi.nt i all o next) := by
  intro rc rj hrc hrj fp t H s H' hn h
  unfold eo at h
  split at h
  · rename_i hg
    exact eo1_ok hT hm h512 hnext hrc hrj hn h (grB_no hg)
  · cases h
  · rename_i d b hg
    have h : gvK fi.nt (.tmp d) t (fun x => onG x (fun e => ifB (bEq e b) ((eo1 P ty fi.nt i all o next).g rc rj fp t H) ((sb fi.nt o.dst).g undefS t (goE next rc rj fp H))) ((sb fi.nt o.dst).g undefS t (goE next rc rj fp H))) = .ret s H' := h
    rw [gvK_eq] at h
    have hw := grB_g (tm := tl fi.nt t) hg
    have skip : (sb fi.nt o.dst).g undefS t (goE next rc rj fp H) = .ret s H' → wantS all (tl fi.nt t) o = some false →
        H.n ≤ H'.n ∧ H'.n ≤ 262143 ∧ ∀ E, EOK P ty fi s H' E → ∀ dr : Dr, dr.done.length = i → fp = fpOf dr.done → MO E (some dr) all (o :: l) k (tl fi.nt t) (hl H) := by
      intro h1 hw
      rw [sb_eq, goE_eq] at h1
      obtain ⟨f1, f2, f3⟩ := hnext rc rj hrc hrj _ _ _ _ _ hn h1
      refine ⟨f1, f2, fun E hE dr hd hfp => ?_⟩
      have f4 := f3 E hE { dr with done := dr.done ++ [⟨undefS, [], [], false⟩] } (by simp [hd]) (by rw [fpOf_snoc, hfp, pushF_eq, if_pos ⟨rfl, rfl⟩])
      rw [tl_tput _ h512] at f4
      exact MO.skip (d := some dr) hw f4
    rcases onG_ret h with ⟨e, hx, h1⟩ | ⟨hx, h1⟩
    · have hx : lget (tl fi.nt t) d = .c (.b e) := hx
      rw [hx] at hw
      simp only at hw
      rw [bEq_beq, ifB_eq] at h1
      split at h1
      · rename_i he
        rw [he] at hw
        exact eo1_ok hT hm h512 hnext hrc hrj hn h1 hw
      · rename_i he
        simp only [Bool.not_eq_true] at he
        rw [he] at hw
        exact skip h1 hw
    · have hx : lget (tl fi.nt t) d = .t [] := hx
      rw [hx] at hw
      exact skip h1 hw

theorem el_ok (hT : TyOK P ty) (hm : P.follows .mixedOrders = true) (h512 : fi.nt ≤ 512) {b : FB} (hb : FBOK P ty fi k b) : ∀ (l : List Oper) (i : Nat), i + l.length = all.length → EBOK P ty fi all i l k (el P ty fi.nt all l b i)
  | [], i, hi => by
    intro rc rj hrc hrj fp t H s H' hn h
    have h : ifB (drDone all fp) (goB b rc rj H t) (.drw all (fp.map fun f => (f.i, f.rd, f.wr))) = .ret s H' := h
    rw [ifB_eq] at h
    split at h
    · rename_i hd
      rw [goB_eq] at h
      obtain ⟨f1, f2, f3⟩ := hb rc rj hrc hrj t H s H' hn h
      refine ⟨f1, f2, fun E hE dr hl hfp => ?_⟩
      subst hfp
      have hi := drDone_indep (all := all) (by simp only [List.length_nil] at hi; omega) hd
      exact fun hd s0 ρ own a w hst => draw_sound hd hi hst fun ρ' own' a' w' hst' => ⟨rfl, f3 E hE s0 ρ' own' a' w' hst'⟩
    · cases h
  | o :: l, i, hi => eo_ok hT hm h512 (el_ok hT hm h512 hb l (i + 1) (by simp only [List.length_cons] at hi; omega))
end
end Go.Proofs.Ytladpdndjcgebaa.Kx
