/- The machine's operations are the symbolic machine's (3): values, places, loads and stores. -/
import Derived.Test.YtladpdndjcgebaaKxF
namespace Go.Proofs.Ytladpdndjcgebaa.Kx
set_option linter.unusedVariables false
open Go Go.Proofs.Ytladpdndjcgebaa.Sx

theorem okTy_eq {ti : TI} (h : okTy ti = true) : ti.k.isOther = false ∧ 0 < ti.sz ∧ (ti.agg = true ∨ ti.sz = 1) := by
  unfold okTy at h
  simp only [ifB_eq, isZ, Nat.beq_eq] at h
  split at h
  · cases h
  split at h
  · cases h
  rename_i h1 h2
  refine ⟨by simpa using h1, by omega, ?_⟩
  split at h
  · rename_i h3; exact .inl h3
  · exact .inr (by simpa using h)
theorem rdvK_eq {ti : TI} (h : ti.agg = true ∨ ti.sz = 1) (off : Nat) (d : D) (K : SV → EX) : rdvK ti.sz ti.agg off d K = K (pack ti (trd ti.sz off d)) := by
  unfold rdvK pack
  cases ha : ti.agg with
  | true => simp only [ifB_eq, if_true]; exact trdK_eq _ _ _ _
  | false =>
    have h1 : ti.sz = 1 := by simpa [ha] using h
    simp only [ifB_eq, Bool.false_eq_true, if_false, dgetK_eq, h1, trd]
theorem flatV_eq {v : SV} (h : flatV v = true) : cellsOf v = [v] ∧ flat [v] = true := by
  cases v <;> first | exact ⟨rfl, rfl⟩ | cases h
theorem flatL_eq : ∀ {l : List SV}, flatL l = true → flat l = true
  | [], _ => rfl
  | x :: l, h => by
    have h : ifB (flatV x) (flatL l) false = true := h
    rw [ifB_eq] at h
    split at h
    · rename_i hx
      have := flatL_eq h
      cases x <;> first | exact this | cases hx
    · cases h
theorem lenB_eq : ∀ {l : List SV} {n : Nat}, lenB l n = true → llen l = n
  | [], n, h => by
    have h : Nat.beq n 0 = true := h
    rw [Nat.beq_eq] at h
    exact h.symm
  | x :: l, 0, h => by cases h
  | x :: l, n + 1, h => by
    have h : lenB l n = true := h
    simp [llen, lenB_eq h]
theorem fits_ret {sz : Nat} {ag : Bool} {v : SV} {k : EX} {s : SV} {H : CH} (hz : ag = true ∨ sz = 1) (h : fits sz ag v k = .ret s H) : llen (cellsOf v) = sz ∧ flat (cellsOf v) = true ∧ k = .ret s H ∧ (ag = true → ∃ l, v = .a l) ∧ (ag = false → cellsOf v = [v]) := by
  unfold fits at h
  rw [ifB_eq] at h
  split at h
  · rename_i ha
    obtain ⟨l, rfl, h1⟩ := onAg_ret h
    obtain ⟨h2, h3⟩ := ifB_ret h1
    obtain ⟨h4, h5⟩ := ifB_ret h3
    exact ⟨lenB_eq h2, flatL_eq h4, h5, fun _ => ⟨l, rfl⟩, fun h => by rw [ha] at h; cases h⟩
  · rename_i ha
    obtain ⟨h1, h2⟩ := ifB_ret h
    obtain ⟨h3, h4⟩ := flatV_eq h1
    have : sz = 1 := by simpa [ha] using hz
    exact ⟨by rw [h3, this]; rfl, by rw [h3]; exact h4, h2, fun h => (ha h).elim, fun _ => h3⟩
theorem wrvK_ret {ag : Bool} {v : SV} {off : Nat} {d : D} {K : D → EX} (h1 : ag = true → ∃ l, v = .a l) (h2 : ag = false → cellsOf v = [v]) : wrvK ag v off d K = K (twr (cellsOf v) off d) := by
  unfold wrvK
  cases ag with
  | true =>
    obtain ⟨l, rfl⟩ := h1 rfl
    show twrK l off d K = _
    rw [twrK_eq]; rfl
  | false =>
    rw [h2 rfl]
    show dsetK off v d K = _
    rw [dsetK_eq]; rfl
theorem blt_eq {a b : Nat} (h : Nat.blt a b = true) : a < b := by rwa [Nat.blt_eq] at h
theorem ble_eq {a b : Nat} (h : Nat.ble a b = true) : a ≤ b := by rwa [Nat.ble_eq] at h
theorem nbeq_eq {a b : Nat} (h : Nat.beq a b = true) : a = b := by rwa [Nat.beq_eq] at h

theorem hg_lt {H : CH} {C : Nat} {c : CC} (h : hg H C = c) (hc : c ≠ .none) : C < H.n := by
  rcases Nat.lt_or_ge C H.n with h1 | h1
  · exact h1
  · exfalso
    unfold hg at h
    rw [ifB_eq, if_neg (by rw [Nat.blt_eq]; omega)] at h
    exact hc h.symm
theorem hlen_put {H : CH} {C : Nat} (h : C < H.n) (x : Ch) : hlen (hset (hl H) C x) = hlen (hl H) := by
  rw [hlen_hset, hlen_hl]; omega
/-- A value, as the very one that it is. -/
def exV (v : Value) : SV := match v with
  | .agg cs => .a (cs.toList.map fun u => .c (.v u))
  | u => .c (.v u)
theorem exV_is {ρ : Env} {hP : HL} {v : Value} (h : ∀ u ∈ v.cells.toList, u.oneCell' = true) : (exV v).is ρ hP v := by
  have key : ∀ l : List Value, (∀ u ∈ l, u.oneCell' = true) → SV.isL ρ hP (l.map fun u => .c (.v u)) l := by
    intro l
    induction l with
    | nil => intro _; rfl
    | cons a l ih => intro h; exact ⟨a, l, rfl, ⟨rfl, h a (by simp)⟩, ih fun u hu => h u (by simp [hu])⟩
  cases v with
  | agg cs => exact ⟨cs, rfl, key _ h⟩
  | _ => exact ⟨rfl, h _ (by simp [Value.cells])⟩
theorem consts_map : ∀ l : List Value, consts (l.map fun u => SV.c (.v u)) = some (l.map .v)
  | [] => rfl
  | a :: l => by simp [consts, consts_map l]
theorem exV_cells {v : Value} : cellsOf (exV v) = v.cells.toList.map fun u => SV.c (.v u) := by
  cases v <;> rfl
theorem flat_map : ∀ l : List Value, flat (l.map fun u => SV.c (.v u)) = true
  | [] => rfl
  | a :: l => by simp [flat, flat_map l]

section
variable {P : Program} {ty : Ty} {o : Oper} {nt : Nat}

theorem ok_val {x : Operand} (hT : TyOK P ty) (ho : o.op = .move x ∨ o.op = .assign x) : OBOK P o nt (fun K t _ => (gb nt x).g t fun v => K v [] []) := by
  intro K t H s H' hn h
  simp only [gb_eq] at h
  rcases ho with ho | ho
  · exact via (p := True) (wr := []) (ty := ty) hT (by simp [opS, ho, denW]) trivial hn h
  · exact via (p := True) (wr := []) (ty := ty) hT (by simp [opS, ho, denW]) trivial hn h
theorem ok_nil {x : Operand} (hT : TyOK P ty) (ho : o.op = .nilCheck x) : OBOK P o nt (fun K t _ => (gb nt x).g t fun v => onNil v (K v [] [])) := by
  intro K t H s H' hn h
  simp only [gb_eq] at h
  obtain ⟨h1, h2⟩ := onNil_ret h
  refine via (p := True) (wr := []) hT ?_ trivial hn h2
  simp only [opS, ho]
  rcases h1 with ⟨c, o, e⟩ | ⟨c, i, j, e⟩ | ⟨f, l, e⟩ <;> rw [e] <;> rfl
theorem ok_pick {c x y : Operand} (hT : TyOK P ty) (ho : o.op = .pick c x y) : OBOK P o nt (oPick nt c x y).g := by
  intro K t H s H' hn h
  have h : (gb nt c).g t (fun c => onB c fun b => (gb nt x).g t fun x => (gb nt y).g t fun y => pickK b x y K) = .ret s H' := h
  simp only [gb_eq] at h
  obtain ⟨b, hb, h1⟩ := onB_ret h
  cases b with
  | true => exact via (p := True) (wr := []) hT (by simp only [opS, ho, hb]; rfl) trivial hn h1
  | false => exact via (p := True) (wr := []) hT (by simp only [opS, ho, hb]; rfl) trivial hn h1
theorem ok_un {T : Nat} {op : UnOp} {x : Operand} (hT : TyOK P ty) (ho : o.op = .unOp op T x) : OBOK P o nt (oUn nt op x).g := by
  intro K t H s H' hn h
  unfold oUn at h
  cases op with
  | not =>
    have h : gvK nt x t (fun x => onB x fun e => cbool (!e) K) = .ret s H' := h
    rw [gvK_eq] at h
    obtain ⟨b, hb, h1⟩ := onB_ret h
    rw [cbool_eq] at h1
    exact via (p := True) (wr := []) hT (by simp only [opS, ho, hb]; rfl) trivial hn h1
  | neg =>
    have h : gvK nt x t (fun x => onI x fun k n => intW k (Int.neg n) K) = .ret s H' := h
    rw [gvK_eq] at h
    obtain ⟨k, n, hb, h1⟩ := onI_ret h
    rw [intW_eq] at h1
    refine via (p := True) (wr := []) hT ?_ trivial hn h1
    simp only [opS, ho, hb, opUn, Int.zero_sub]
    rfl
  | _ => cases h
theorem nthK_ret {K : KK} {s : SV} {H : CH} : ∀ {l : List SV} {i : Nat}, nthK K l i = .ret s H → ∃ v, nth l i = some v ∧ K v [] [] = .ret s H
  | [], i, h => by cases h
  | x :: l, 0, h => ⟨x, rfl, h⟩
  | x :: l, i + 1, h => nthK_ret (l := l) (i := i) h
theorem ok_extract {x : Operand} {i : Nat} (hT : TyOK P ty) (ho : o.op = .extract x i) : OBOK P o nt (fun K t _ => gvK nt x t fun x => onTu x fun l => nthK K l i) := by
  intro K t H s H' hn h
  simp only [gvK_eq] at h
  obtain ⟨l, hl, h1⟩ := onTu_ret h
  obtain ⟨v, hv, h2⟩ := nthK_ret h1
  exact via (p := True) (wr := []) hT (by simp only [opS, ho, hl, opExtract, hv]; rfl) trivial hn h2
theorem ok_makeFunc {f : Nat} {first caps : Array Operand} (hT : TyOK P ty) (ho : o.op = .makeFunc (.func f) first caps) (hf : first.isEmpty = true) : OBOK P o nt (fun K t _ => gvsK nt t caps.toList fun l => K (.fn f l) [] []) := by
  intro K t H s H' hn h
  simp only [gvsK_eq] at h
  exact via (p := True) (wr := []) hT (by simp only [opS, ho, hf, if_true]; rfl) trivial hn h
theorem ok_fieldAddr {T f : Nat} {x : Operand} (hT : TyOK P ty) (ho : o.op = .fieldAddr T x f) : OBOK P o nt (oFieldAddr nt ty T f x).g := by
  intro K t H s H' hn h
  unfold oFieldAddr at h
  split at h
  · rename_i fs hk
    split at h
    · rename_i off e hf
      rw [ifB_eq] at h
      split at h
      · cases h
      · rename_i hc
        simp only [Bool.or_eq_true, Nat.beq_eq] at hc
        have h : (gb nt x).g t (fun x => onA x (faP off K) (faQ off K)) = .ret s H' := h
        rw [gb_eq] at h
        rcases onA_ret h with ⟨C, j, hx, h1⟩ | ⟨C, i, j, hx, h1⟩
        · rw [faP, forceN_eq] at h1
          refine via (p := True) (wr := []) hT ?_ trivial hn h1
          simp only [opS, ho, opFieldAddr, hk, hf, if_neg hc, hx]
          rfl
        · rw [faQ, forceN_eq] at h1
          refine via (p := True) (wr := []) hT ?_ trivial hn h1
          simp only [opS, ho, opFieldAddr, hk, hf, if_neg hc, hx]
          rfl
    · cases h
  · cases h
theorem packK_ret {ti : TI} {K : KK} {r : Option (List SV)} {s : SV} {H : CH} (h : packK ti.sz ti.agg K r = .ret s H) : ∃ l, r = some l ∧ K (pack ti l) [] [] = .ret s H := by
  unfold packK at h
  split at h
  · rename_i l
    refine ⟨l, rfl, ?_⟩
    unfold pack
    rw [ifB_eq] at h
    cases ha : ti.agg with
    | true => simpa [ha] using h
    | false =>
      simp only [ha, Bool.false_eq_true, if_false] at h
      split at h
      · exact h
      · cases h
  · cases h
theorem ok_field {T f : Nat} {x : Operand} (hT : TyOK P ty) (ho : o.op = .field T x f) : OBOK P o nt (oField nt ty T f x).g := by
  intro K t H s H' hn h
  unfold oField at h
  split at h
  · rename_i fs hk
    split at h
    · rename_i off e hf
      rw [ifB_eq] at h
      split at h
      · cases h
      · rename_i hc
        have h : gvK nt x t (fun x => onAg x fun l => packK (ty e).sz (ty e).agg K (lslice off (ty e).sz l)) = .ret s H' := h
        rw [gvK_eq] at h
        obtain ⟨l, hx, h1⟩ := onAg_ret h
        obtain ⟨r, hr, h2⟩ := packK_ret h1
        refine via (p := True) (wr := []) hT ?_ trivial hn h2
        simp only [opS, ho, opField, hk, hf, if_neg hc, hx, hr]
        rfl
    · cases h
  · cases h
theorem inR_eq {n : Int} {len : Nat} (h : inR n len = true) : 0 ≤ n ∧ n < (len : Int) := by
  cases n with
  | ofNat m =>
    have h : Nat.blt m len = true := h
    have := blt_eq h
    simp only [Int.ofNat_eq_natCast]
    omega
  | negSucc m => cases h
theorem ok_load {T : Nat} {x : Operand} (hT : TyOK P ty) (ho : o.op = .load T x) : OBOK P o nt (oLoad nt (ty T) x).g := by
  intro K t H s H' hn h
  unfold oLoad at h
  rw [ifB_eq] at h
  split at h
  case isFalse => cases h
  rename_i hok
  obtain ⟨hoth, hsz, hag⟩ := okTy_eq hok
  have h : (gb nt x).g t (fun x => onA x (ldP (ty T).sz (ty T).agg K H) (ldQ (ty T).sz (ty T).agg K H)) = .ret s H' := h
  rw [gb_eq] at h
  rcases onA_ret h with ⟨C, off, hx, h1⟩ | ⟨C, i, j, hx, h1⟩
  · rw [ldP, hgK_eq] at h1
    obtain ⟨T', n, d, hd, h2⟩ := onCells_ret h1
    obtain ⟨h3, h4⟩ := ifB_ret h2
    rw [rdvK_eq hag] at h4
    refine via (p := True) (wr := []) hT ?_ trivial hn h4
    simp only [opS, ho, opLoad, hoth, hx, hget_hl, hd, den]
    rw [lslice_dl (ble_eq h3)]
    rfl
  · rw [ldQ, hgK_eq] at h1
    obtain ⟨T', z, n, d, hd, h2⟩ := onVs_ret h1
    obtain ⟨h3, h4⟩ := ifB_ret h2
    obtain ⟨h5, h6⟩ := ifB_ret h4
    rw [forceN_eq, rdvK_eq hag] at h6
    have h3 := blt_eq h3
    have h5 := ble_eq h5
    have h5 : j + (ty T).sz ≤ z := h5
    refine ⟨pack (ty T) (trd (ty T).sz (i * z + j) d), [C], [], at_world (s := pack (ty T) (trd (ty T).sz (i * z + j) d)) (rd := [C]) (wr := denW []) hT fun ρ own w a hop hsat _ => ?_, hn, h6⟩
    have hC := hsat C (.inl (by simp))
    rw [hget_hl, hd] at hC
    obtain ⟨us, hul, hus, hone, hv⟩ := vs_exact hC (dl_length _ _) (by omega)
    refine ⟨tl nt t, hset (hl H) C (.vec T' z n (exF us z)), (i < n ∧ j + (ty T).sz ≤ z), pack (ty T) (tab (exF us z i) j (ty T).sz), [C], [], hop, fun c hc => ?_, ?_, rfl, ?_, ⟨h3, h5⟩, fun ρ' own' w' v hr hk hv' _ => ⟨?_, fun x hx => by cases hx⟩⟩
    · rw [hget_hset]
      split
      · rename_i e; subst e; exact hv
      · exact hsat c hc
    · exact hlen_put (hg_lt hd (by simp)) _
    · simp only [opS, ho, opLoad, hoth, hx, hget_hset, if_true]
    · have hus' := isL_take (ty T).sz (isL_drop (i * z + j) (isL_mono hr hk hus))
      have hle : i * z + j + (ty T).sz ≤ n * z := by
        calc i * z + j + (ty T).sz ≤ i * z + z := by omega
          _ = (i + 1) * z := by rw [Nat.add_mul]; omega
          _ ≤ n * z := Nat.mul_le_mul_right _ (by omega)
      rw [← trd_eq (ty T).sz (i * z + j) (n * z) d hle] at hus'
      have htab : ∀ (m j : Nat) (vs : List Value), i * z + j + m ≤ us.length → SV.isL ρ' (view own' 0 w') (tab (exF us z i) j m) vs → vs = (us.drop (i * z + j)).take m := by
        intro m
        induction m with
        | zero => intro j vs _ hh; have hh : vs = [] := hh; rw [hh, List.take_zero]
        | succ m ih =>
          intro j vs hlen ⟨u, r, e, hu, hr'⟩
          subst e
          obtain ⟨h7, _⟩ := exF_is (hP := view own' 0 w') hu
          have h8 : i * z + j < us.length := by omega
          rw [List.drop_eq_getElem_cons h8, List.take_succ_cons]
          congr 1
          · rw [h7, List.getD_eq_getElem?_getD, List.getElem?_eq_getElem h8]; rfl
          · exact ih (j + 1) r (by omega) hr'
      have hlen : i * z + j + (ty T).sz ≤ us.length := by rw [hul, dl_length]; exact hle
      unfold pack at hv' ⊢
      cases ha : (ty T).agg with
      | true =>
        rw [ha] at hv'
        obtain ⟨vs, e, hv'⟩ := hv'
        exact ⟨vs, e, by rw [htab _ _ _ hlen hv']; exact hus'⟩
      | false =>
        have h1 : (ty T).sz = 1 := by simpa [ha] using hag
        rw [ha] at hv'
        simp only [h1, tab, trd] at hv' hus' ⊢
        obtain ⟨u, r, e, hu, hr'⟩ := hus'
        have hlt : i * z + j < us.length := by omega
        rw [List.drop_eq_getElem_cons hlt, List.take_succ_cons] at e
        simp only [List.cons.injEq] at e
        obtain ⟨h7, _⟩ := exF_is (hP := view own' 0 w') hv'
        rw [h7, List.getD_eq_getElem?_getD, List.getElem?_eq_getElem hlt]
        rw [← e.1] at hu
        exact hu
theorem pget_eq : ∀ (l : List PV) (k : Nat), pget l k = l.getD k .x
  | [], k => by cases k <;> rfl
  | _ :: _, 0 => rfl
  | _ :: l, k + 1 => by simpa [pget] using pget_eq l k
theorem consts_len : ∀ {l : List SV} {ps : List PV}, consts l = some ps → ps.length = l.length
  | [], ps, h => by simp only [consts, Option.some.injEq] at h; subst h; rfl
  | s :: l, ps, h => by
    cases s with
    | c p =>
      simp only [consts] at h
      split at h
      · rename_i r hr
        simp only [Option.some.injEq] at h
        subst h
        simp [consts_len hr]
      · cases h
    | _ => simp [consts] at h
theorem consts_at {ρ : Env} {hP : HL} {u : Value} : ∀ {l : List SV} {ps : List PV} {k : Nat}, consts l = some ps → k < ps.length → (pget ps k).is hP u → (lget l k).is ρ hP u
  | [], ps, k, h, hk, _ => by simp only [consts, Option.some.injEq] at h; subst h; simp at hk
  | s :: l, ps, k, h, hk, hu => by
    cases s with
    | c p =>
      simp only [consts] at h
      split at h
      · rename_i r hr
        simp only [Option.some.injEq] at h
        subst h
        cases k with
        | zero => exact hu
        | succ k => exact consts_at (k := k) hr (by simpa using hk) hu
      · cases h
    | _ => simp [consts] at h
theorem consts_get : ∀ {l : List SV} {ps : List PV} {k : Nat}, consts l = some ps → k < ps.length → lget l k = .c (pget ps k)
  | [], ps, k, h, hk => by simp only [consts, Option.some.injEq] at h; subst h; simp at hk
  | s :: l, ps, k, h, hk => by
    cases s with
    | c p =>
      simp only [consts] at h
      split at h
      · rename_i r hr
        simp only [Option.some.injEq] at h
        subst h
        cases k with
        | zero => rfl
        | succ k => exact consts_get (k := k) hr (by simpa using hk)
      · cases h
    | _ => simp [consts] at h
/-- The value that is stored, as the very cells that it has. -/
theorem exact_val {a x : Operand} {t : N3} {ρ : Env} {hP : HL} {A : Act} (hv : okVal a x = true) (hf : flat (cellsOf (ev (tl nt t) x)) = true) (hx : (ev (tl nt t) x).is ρ hP (A.eval x)) (ha : (ev (tl nt t) a).is ρ hP (A.eval a)) :
    ∃ tm' ps, (ev tm' x).is ρ hP (A.eval x) ∧ ev tm' a = ev (tl nt t) a ∧ consts (cellsOf (ev tm' x)) = some ps ∧ llen (cellsOf (ev tm' x)) = llen (cellsOf (ev (tl nt t) x)) ∧ flat (cellsOf (ev tm' x)) = true ∧ ps.length = (cellsOf (ev (tl nt t) x)).length ∧
      ∀ ρ' hP', Env.le ρ ρ' → HL.le hP hP' → ∀ k u, k < ps.length → (pget ps k).is hP' u → (lget (cellsOf (ev (tl nt t) x)) k).is ρ' hP' u := by
  obtain ⟨hc1, hc2⟩ := cells_is hf hx
  have hlen := isL_length hc1
  cases x with
  | tmp i =>
    have hi : i < (tl nt t).length := by
      rcases Nat.lt_or_ge i (tl nt t).length with h | h
      · exact h
      · exfalso
        simp only [ev] at hf
        rw [lget_eq, List.getD_eq_getElem?_getD, List.getElem?_eq_none h] at hf
        simp [undefS, cellsOf, flat] at hf
    have e1 : ev (lset (tl nt t) i (exV (A.eval (.tmp i)))) (.tmp i) = exV (A.eval (.tmp i)) := by
      simp only [ev]
      rw [lget_lset_eq, if_pos hi]
    have hval : (SV.isL ρ hP ((A.eval (.tmp i)).cells.toList.map fun u => .c (.v u)) (A.eval (.tmp i)).cells.toList) := by
      have := cells_is (ρ := ρ) (hP := hP) (x := exV (A.eval (.tmp i))) (v := A.eval (.tmp i)) (by rw [exV_cells]; exact flat_map _) (exV_is hc2)
      rw [exV_cells] at this
      exact this.1
    refine ⟨lset (tl nt t) i (exV (A.eval (.tmp i))), (A.eval (.tmp i)).cells.toList.map .v, ?_, ?_, ?_, ?_, ?_, by rw [List.length_map]; exact hlen, fun ρ' hP' hr hk k u hk' hu => ?_⟩
    · rw [e1]; exact exV_is hc2
    · cases a with
      | tmp j =>
        simp only [ev]
        refine lget_lset_ne _ _ _ _ fun e => ?_
        simp only [okVal, Bool.not_eq_true'] at hv
        subst e
        rw [Nat.beq_refl] at hv
        cases hv
      | _ => rfl
    · rw [e1, exV_cells, consts_map]
    · rw [e1, exV_cells, llen_eq, llen_eq, List.length_map, ← hlen]
    · rw [e1, exV_cells]; exact flat_map _
    · rw [pget_eq, List.getD_eq_getElem?_getD, List.getElem?_eq_getElem hk'] at hu
      simp only [List.getElem_map, Option.getD_some] at hu
      have h1 := isL_at (isL_mono hr hk hc1) k
      rw [List.length_map] at hk'
      rw [List.getD_eq_getElem?_getD, List.getElem?_eq_getElem hk'] at h1
      rw [hu.1]
      exact h1
  | const e =>
    simp only [okVal] at hv
    split at hv
    · rename_i ps hps
      exact ⟨tl nt t, ps, hx, rfl, hps, rfl, hf, consts_len hps, fun ρ' hP' hr hk k u hk' hu => consts_at hps hk' hu⟩
    · cases hv
  | global g => exact ⟨tl nt t, _, hx, rfl, rfl, rfl, hf, rfl, fun ρ' hP' hr hk k u hk' hu => by
      obtain rfl : k = 0 := by simpa using hk'
      exact hu⟩
  | func f => cases hv
theorem ok_store {T : Nat} {a x : Operand} (hT : TyOK P ty) (ho : o.op = .store T a x) : OBOK P o nt (oStore nt (ty T) a x).g := by
  intro K t H s H' hn h
  unfold oStore at h
  rw [ifB_eq] at h
  split at h
  case isFalse => cases h
  rename_i hok
  obtain ⟨hoth, hsz, hag⟩ := okTy_eq hok
  have h : (gb nt x).g t (fun v => (gb nt a).g t fun p => fits (ty T).sz (ty T).agg v (onA p (stP (ty T).sz (ty T).agg v K H) fun C i j => ifB (okVal a x) (stQ (ty T).sz (ty T).agg v K H C i j) (.bad "store: value"))) = .ret s H' := h
  rw [gb_eq, gb_eq] at h
  obtain ⟨hl1, hf, h, ha1, ha2⟩ := fits_ret hag h
  rcases onA_ret h with ⟨C, off, hx, h1⟩ | ⟨C, i, j, hx, h1⟩
  · rw [stP, hgK_eq] at h1
    obtain ⟨T', n, d, hd, h2⟩ := onCells_ret h1
    obtain ⟨h3, h4⟩ := ifB_ret h2
    rw [wrvK_ret ha1 ha2] at h4
    have hC := hg_lt hd (by simp)
    refine via (p := True) (wr := [(C, .cells T' n (twr (cellsOf (ev (tl nt t) x)) off d))]) hT ?_ trivial ⟨by omega, by omega, by rw [if_pos hC]; exact hn⟩ h4
    simp only [opS, ho, opStore, hoth, hl1, hf, and_self, if_true, hx, hget_hl, hd, den]
    rw [lput_dl (by rw [← llen_eq, hl1]; exact ble_eq h3)]
    rfl
  · obtain ⟨hval, h1⟩ := ifB_ret h1
    rw [stQ, hgK_eq] at h1
    obtain ⟨T', z, n, d, hd, h2⟩ := onVs_ret h1
    obtain ⟨h3, h4⟩ := ifB_ret h2
    obtain ⟨h5, h6⟩ := ifB_ret h4
    rw [forceN_eq, wrvK_ret ha1 ha2] at h6
    have h3 := blt_eq h3
    have h5 : j + (ty T).sz ≤ z := ble_eq h5
    have hC := hg_lt hd (by simp)
    refine ⟨undefS, [], [(C, .vs T' z n (twr (cellsOf (ev (tl nt t) x)) (i * z + j) d))], at_world (s := undefS) (rd := []) (wr := denW [(C, .vs T' z n (twr (cellsOf (ev (tl nt t) x)) (i * z + j) d))]) hT fun ρ own w A hop hsat _ => ?_, ⟨by omega, by omega, by rw [if_pos hC]; exact hn⟩, h6⟩
    have hxo : x ∈ o.op.operands := by simp [ho, Op.operands]
    have hao : a ∈ o.op.operands := by simp [ho, Op.operands]
    obtain ⟨tm', ps, e1, e2, e3, e4, e5, e6, e7⟩ := exact_val hval hf (hop x hxo) (hop a hao)
    have hvC := hsat C (.inr (by simp [denW, wnames]))
    rw [hget_hl, hd] at hvC
    obtain ⟨us, hul, hus, hone, hv⟩ := vs_exact hvC (dl_length _ _) (by omega)
    rw [dl_length] at hul
    obtain ⟨hc1, hc2⟩ := cells_is hf (hop x hxo)
    have hcl := isL_length hc1
    rw [llen_eq] at hl1
    have hle : i * z + j + (ty T).sz ≤ n * z := by
      calc i * z + j + (ty T).sz ≤ i * z + z := by omega
        _ = (i + 1) * z := by rw [Nat.add_mul]; omega
        _ ≤ n * z := Nat.mul_le_mul_right _ (by omega)
    refine ⟨tm', hset (hl H) C (.vec T' z n (exF us z)), (i < n ∧ j + (ty T).sz ≤ z), undefS, [], [(C, .vec T' z n (upd (exF us z) i j ps))], fun y hy => ?_, fun c hc => ?_, hlen_put hC _, rfl, ?_, ⟨h3, h5⟩, fun ρ' own' w' v hr hk hv' hw => ⟨hv', fun y hy => ?_⟩⟩
    · simp only [ho, Op.operands, List.mem_toArray, List.mem_cons, List.not_mem_nil, or_false] at hy
      rcases hy with rfl | rfl
      · rw [e2]; exact hop _ hao
      · exact e1
    · rw [hget_hset]
      split
      · rename_i e; subst e; exact hv
      · exact hsat c (by simpa [denW, wnames] using hc)
    · simp only [opS, ho, opStore, hoth, e4, e5, and_self, if_true, e2, hx, hget_hset, e3]
      rw [if_pos (by rw [llen_eq]; exact ⟨hl1, trivial⟩)]
    · simp only [denW, List.map_cons, List.map_nil, List.mem_singleton] at hy
      subst hy
      have hw1 := hw _ (List.mem_singleton.2 rfl)
      refine vs_back hw1 (by omega) (dl_length _ _) fun i' hi' j' hj' u hu => ?_
      have hsame : i' * z + j' < n * z := by
        calc i' * z + j' < i' * z + z := by omega
          _ = (i' + 1) * z := by rw [Nat.add_mul]; omega
          _ ≤ n * z := Nat.mul_le_mul_right _ (by omega)
      rw [upd_at (n := (ty T).sz) (by omega)] at hu
      rw [lget_eq, List.getD_eq_getElem?_getD, dl_get, if_pos hsame, Option.getD_some, dget_twr]
      by_cases hin : i' = i ∧ j ≤ j' ∧ j' < j + (ty T).sz
      · rw [if_pos hin] at hu
        obtain ⟨rfl, hj1, hj2⟩ := hin
        have h8 := e7 ρ' _ hr hk _ u (by omega) hu
        rw [if_pos (by omega), show i' * z + j' - (i' * z + j) = j' - j by omega, ← lget_eq]
        exact h8
      · rw [if_neg hin] at hu
        obtain ⟨h7, h8⟩ := exF_is (hP := view own' 0 w') hu
        have h9 := isL_at (isL_mono hr hk hus) (i' * z + j')
        rw [lget_eq, List.getD_eq_getElem?_getD, dl_get, if_pos hsame, Option.getD_some, ← h7] at h9
        rw [if_neg]
        · exact h9
        · rintro ⟨hge, hlt⟩
          rcases Nat.lt_trichotomy i' i with h | h | h
          · have : i' * z + z ≤ i * z := by rw [← Nat.succ_mul]; exact Nat.mul_le_mul_right _ h
            omega
          · subst h; omega
          · have : i * z + z ≤ i' * z := by rw [← Nat.succ_mul]; exact Nat.mul_le_mul_right _ h
            omega
end
end Go.Proofs.Ytladpdndjcgebaa.Kx
