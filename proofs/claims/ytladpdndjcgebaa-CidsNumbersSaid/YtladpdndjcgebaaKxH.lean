/- The machine's operations are the symbolic machine's (4): indices, new memory, lengths, least and greatest. -/
import Derived.Test.YtladpdndjcgebaaKxG
namespace Go.Proofs.Ytladpdndjcgebaa.Kx
set_option linter.unusedVariables false
open Go Go.Proofs.Ytladpdndjcgebaa.Sx

theorem den_vs {H : CH} {C T z n : Nat} {d : D} (h : hg H C = .vs T z n d) : hget (hl H) C = .vs T z (dl (n * z) d) := by rw [hget_hl, h]; rfl
theorem den_cells {H : CH} {C T n : Nat} {d : D} (h : hg H C = .cells T n d) : hget (hl H) C = .cells T (dl n d) := by rw [hget_hl, h]; rfl
theorem zero_sz {n z : Nat} {d : D} (h : z = 0) : dl (n * z) d = [] := by subst h; simp [dl]

section
variable {P : Program} {ty : Ty} {o : Oper} {nt : Nat}

theorem ty_sz {T : Nat} (hT : TyOK P ty) (ho : (ty T).k.isOther = false) (ha : (ty T).agg = false) : (ty T).sz = 1 := by
  obtain ⟨i, z, h1, h2, h3, h4, h5⟩ := (hT T ho).info
  obtain ⟨h6, h7, h8, h9⟩ := h5
  have := h9 ha
  rw [this] at h7
  simpa using h7.symm

theorem ok_indexAddr {T : Nat} {x i : Operand} (hT : TyOK P ty) (ho : o.op = .indexAddr T x i) : OBOK P o nt (oIndexAddr nt ty T x i).g := by
  intro K t H s H' hn h
  unfold oIndexAddr at h
  split at h
  · rename_i e hk
    rw [ifB_eq] at h
    split at h
    · cases h
    rename_i hoth
    simp only [Bool.or_eq_true, isZ, Nat.beq_eq, not_or, Bool.not_eq_true] at hoth
    obtain ⟨hoth, hesz⟩ := hoth
    have hesz : 0 < (ty e).sz := by omega
    have h : (gb nt i).g t (fun i => (gb nt x).g t fun x => onI i fun _ n => onL x (ixS (ty e).sz K H n) (ixC (ty e).sz K n) (.bad "indexAddr: nil")) = .ret s H' := h
    rw [gb_eq, gb_eq] at h
    obtain ⟨k, n, hi, h1⟩ := onI_ret h
    rcases onL_ret h1 with ⟨C, st, len, lim, hx, h2⟩ | ⟨C, off, z, len, cap, hx, h2⟩ | ⟨hx, h2⟩
    · rw [ixS, hgK_eq] at h2
      obtain ⟨T', z, m, d, hd, h3⟩ := onVs_ret h2
      obtain ⟨h4, h5⟩ := ifB_ret h3
      obtain ⟨h6, h7⟩ := ifB_ret h5
      rw [forceN_eq, natI_eq] at h7
      obtain rfl := nbeq_eq h4
      have hC := hg_lt hd (by simp)
      refine ⟨.q C (st + n.toNat) 0, [C], [], at_world (s := .q C (st + n.toNat) 0) (rd := [C]) (wr := denW []) hT fun ρ own w A hop hsat _ => ?_, hn, h7⟩
      have hvC := hsat C (.inl (by simp))
      rw [den_vs hd] at hvC
      obtain ⟨us, _, _, _, hv⟩ := vs_exact hvC (dl_length _ _) hesz
      refine ⟨tl nt t, hset (hl H) C (.vec T' (ty e).sz m (exF us (ty e).sz)), (0 ≤ n ∧ n < (len : Int)), .q C (st + n.toNat) 0, [C], [], hop, fun c hc => ?_, hlen_put hC _, rfl, ?_, inR_eq h6, fun ρ' own' w' v hr hk hv' _ => ⟨hv', fun x hx => by cases hx⟩⟩
      · rw [hget_hset]
        split
        · rename_i e; subst e; exact hv
        · exact hsat c hc
      · simp only [opS, ho, opIndexAddr, hx, hi, hk, hget_hset, if_true, hoth, and_self]
    · unfold ixC at h2
      obtain ⟨h4, h5⟩ := ifB_ret h2
      obtain ⟨h6, h7⟩ := ifB_ret h5
      rw [forceN_eq, natI_eq] at h7
      obtain rfl := nbeq_eq h4
      refine via (p := 0 ≤ n ∧ n < (len : Int)) (wr := []) hT ?_ (inR_eq h6) hn h7
      simp only [opS, ho, opIndexAddr, hx, hi, hk, hoth, and_self, if_true]
      rfl
    · cases h2
  · rename_i N e hk
    rw [ifB_eq] at h
    split at h
    · cases h
    rename_i hoth
    simp only [Bool.not_eq_true] at hoth
    have h : (gb nt i).g t (fun i => (gb nt x).g t fun x => onI i fun _ n => ifB (inR n N) (onA x (faP (Nat.mul (natI n) (ty e).sz) K) (faQ (Nat.mul (natI n) (ty e).sz) K)) (.bad "indexAddr: range")) = .ret s H' := h
    rw [gb_eq, gb_eq] at h
    obtain ⟨k, n, hi, h1⟩ := onI_ret h
    obtain ⟨h2, h3⟩ := ifB_ret h1
    rcases onA_ret h3 with ⟨C, off, hx, h4⟩ | ⟨C, q, j, hx, h4⟩
    · rw [faP, forceN_eq, natI_eq] at h4
      refine via (p := 0 ≤ n ∧ n < (N : Int)) (wr := []) hT ?_ (inR_eq h2) hn h4
      simp only [opS, ho, opIndexAddr, hx, hi, hk, hoth, Bool.false_eq_true, if_false]
      rfl
    · rw [faQ, forceN_eq, natI_eq] at h4
      refine via (p := 0 ≤ n ∧ n < (N : Int)) (wr := []) hT ?_ (inR_eq h2) hn h4
      simp only [opS, ho, opIndexAddr, hx, hi, hk, hoth, Bool.false_eq_true, if_false]
      rfl
  · cases h
theorem ok_index {T : Nat} {x i : Operand} (hT : TyOK P ty) (ho : o.op = .index T x i) : OBOK P o nt (oIndex nt ty T x i).g := by
  intro K t H s H' hn h
  unfold oIndex at h
  split at h
  · rename_i N e hk
    rw [ifB_eq] at h
    split at h
    · cases h
    rename_i hoth
    simp only [Bool.not_eq_true] at hoth
    have h : gvK nt i t (fun i => gvK nt x t fun x => onI i fun _ n => onAg x fun l => ifB (inR n N) (packK (ty e).sz (ty e).agg K (lslice (Nat.mul (natI n) (ty e).sz) (ty e).sz l)) (.bad "index")) = .ret s H' := h
    rw [gvK_eq, gvK_eq] at h
    obtain ⟨k, n, hi, h1⟩ := onI_ret h
    obtain ⟨l, hx, h2⟩ := onAg_ret h1
    obtain ⟨h3, h4⟩ := ifB_ret h2
    obtain ⟨r, hr, h5⟩ := packK_ret h4
    rw [natI_eq] at hr
    have hr : lslice (n.toNat * (ty e).sz) (ty e).sz l = some r := hr
    refine via (p := 0 ≤ n ∧ n < (N : Int)) (wr := []) hT ?_ (inR_eq h3) hn h5
    simp only [opS, ho, opIndex, hx, hi, hk, hoth, Bool.false_eq_true, if_false, hr]
    rfl
  · rename_i hk
    have h : gvK nt i t (fun i => gvK nt x t fun x => onI i fun _ n => onS x fun l => ifB (inR n l.length) (byteK l (natI n) K) (.bad "index")) = .ret s H' := h
    rw [gvK_eq, gvK_eq] at h
    obtain ⟨k, n, hi, h1⟩ := onI_ret h
    obtain ⟨l, hx, h2⟩ := onS_ret h1
    obtain ⟨h3, h4⟩ := ifB_ret h2
    rw [byteK, forceN_eq, natI_eq] at h4
    refine via (p := 0 ≤ n ∧ n < (l.length : Int)) (wr := []) hT ?_ (inR_eq h3) hn h4
    simp only [opS, ho, opIndex, hx, hi, hk]
    rfl
  · cases h

theorem fillK_ret {place : Nat → Option (Nat × Nat)} {t : N3} {k : D → EX} {s : SV} {H' : CH} {m : Nat} : ∀ {parts : List (Nat × Operand)} {d : D}, fillK nt m place t k parts d = .ret s H' →
    ∃ d', fillS place (dl m d) (tl nt t) parts = some (dl m d') ∧ k d' = .ret s H'
  | [], d, h => ⟨d, rfl, h⟩
  | (i, x) :: rest, d, h => by
    have h : (match place i with
      | none => EX.bad "fill"
      | some (off, size) => gvK nt x t fun v => ifB (lenB (cellsOf v) size) (ifB (flatL (cellsOf v)) (ifB (Nat.ble (Nat.add off size) m) (twrK (cellsOf v) off d (fillK nt m place t k rest)) (.bad "fill: beyond")) (.bad "fill: flat")) (.bad "fill: size")) = .ret s H' := h
    split at h
    · cases h
    · rename_i off size hpl
      rw [gvK_eq] at h
      obtain ⟨h1, h2⟩ := ifB_ret h
      obtain ⟨h3, h4⟩ := ifB_ret h2
      obtain ⟨h5, h6⟩ := ifB_ret h4
      rw [twrK_eq] at h6
      obtain ⟨d', h7, h8⟩ := fillK_ret h6
      refine ⟨d', ?_, h8⟩
      have hl := lenB_eq h1
      have h5 : off + size ≤ m := ble_eq h5
      simp only [fillS, hpl]
      rw [if_pos ⟨hl, flatL_eq h3⟩, lput_dl (by rw [← llen_eq, hl]; exact h5)]
      exact h7
theorem mapC_length : ∀ l : List PV, (mapC l).length = l.length
  | [] => rfl
  | _ :: l => by simp [mapC, mapC_length l]
theorem ty_z {T : Nat} (hT : TyOK P ty) (ho : (ty T).k.isOther = false) : (ty T).z.length = (ty T).sz := by
  obtain ⟨i, z, h1, h2, h3, h4, h5⟩ := (hT T ho).info
  have := listIs_length (h5.1 (fun _ => none))
  rw [← this, Array.length_toList, h5.2.1]
theorem dl_twr {l : List SV} {m : Nat} (h : l.length = m) : dl m (twr l 0 []) = l := by subst h; exact dl_twr_nil
theorem trd_dl (m : Nat) (d : D) : trd m 0 d = dl m d := by
  rw [trd_eq m 0 m d (by omega), List.drop_zero, List.take_of_length_le (by rw [dl_length]; omega)]
theorem ok_build {T : Nat} {parts : Array (Nat × Operand)} (hT : TyOK P ty) (ho : o.op = .build T parts) : OBOK P o nt (oBuild nt ty T parts.toList).g := by
  intro K t H s H' hn h
  have go : ∀ (place : Nat → Option (Nat × Nat)), (ty T).k.isOther = false → zeroK (mapC (ty T).z) (fillK nt (ty T).sz place t (fun d => trdK (ty T).sz d 0 fun l => K (.a l) [] []) parts.toList) = .ret s H' →
      ∃ l, fillS place (mapC (ty T).z) (tl nt t) parts.toList = some l ∧ K (.a l) [] [] = .ret s H' := by
    intro place hoth h
    rw [zeroK, twrK_eq] at h
    obtain ⟨d', h1, h2⟩ := fillK_ret h
    rw [dl_twr (by rw [mapC_length, ty_z hT hoth])] at h1
    rw [trdK_eq, trd_dl] at h2
    exact ⟨_, h1, h2⟩
  unfold oBuild at h
  split at h
  · rename_i fs hk
    rw [ifB_eq] at h
    split at h
    · rename_i hkn
      simp only [Bool.and_eq_true, Bool.not_eq_true'] at hkn
      obtain ⟨l, h1, h2⟩ := go _ hkn.2 h
      refine via (p := True) (wr := []) hT ?_ trivial hn h2
      simp only [opS, ho, opBuild, hk, hkn.1, Bool.true_eq_false, if_false, h1]
      rfl
    · cases h
  · rename_i N e hk
    rw [ifB_eq] at h
    split at h
    · cases h
    · rename_i hoth
      obtain ⟨l, h1, h2⟩ := go _ (by rw [hk]; rfl) h
      refine via (p := True) (wr := []) hT ?_ trivial hn h2
      simp only [opS, ho, opBuild, hk, hoth, if_false, h1]
      rfl
  · cases h
theorem ok_alloc {T : Nat} (hT : TyOK P ty) (ho : o.op = .alloc T) : OBOK P o nt (oAlloc ty T).g := by
  intro K t H s H' hn h
  unfold oAlloc at h
  rw [ifB_eq] at h
  split at h
  · cases h
  rename_i hoth
  obtain ⟨h1, h2⟩ := onNew_ret h
  rw [zeroK, twrK_eq] at h2
  refine via (p := True) (wr := [(H.n, .cells T (llen (mapC (ty T).z)) (twr (mapC (ty T).z) 0 []))]) hT ?_ trivial ⟨Nat.le_refl _, h1, by rw [if_neg (by omega)]; show H.n + 1 ≤ 262143; omega⟩ h2
  simp only [opS, ho, opAlloc]
  cases hq : (ty T).k.isOther with
  | true => exact (hoth hq).elim
  | false =>
    simp only [denW, List.map_cons, List.map_nil, den, hlen_hl]
    rw [dl_twr (by rw [llen_eq])]
theorem ok_box {T : Nat} {x : Operand} (hT : TyOK P ty) (ho : o.op = .box T x) : OBOK P o nt (oBox nt T x).g := by
  intro K t H s H' hn h
  have h : gvK nt x t (fun x => boxK T K H (cellsOf x)) = .ret s H' := h
  rw [gvK_eq, boxK] at h
  obtain ⟨hf, h⟩ := ifB_ret h
  obtain ⟨h1, h2⟩ := onNew_ret h
  rw [twrK_eq, forceN_eq] at h2
  refine via (p := True) (ty := ty) (wr := [(H.n, .cells T (llen (cellsOf (ev (tl nt t) x))) (twr (cellsOf (ev (tl nt t) x)) 0 []))]) hT ?_ trivial ⟨Nat.le_refl _, h1, by rw [if_neg (by omega)]; show H.n + 1 ≤ 262143; omega⟩ h2
  simp only [opS, ho, flatL_eq hf, denW, List.map_cons, List.map_nil, den, hlen_hl]
  rw [dl_twr (by rw [llen_eq])]
theorem intI_eq (n : Nat) (K : KK) : intI n K = K (.c (.i .i64 (n : Int))) [] [] := by rw [intI, forceN_eq]; rfl
theorem ok_len {T : Nat} {x : Operand} {c : Call} {ats : List Nat} (hT : TyOK P ty) (ho : o.op = .call c) (hc : c.callee = .builtin .len) (ha : c.args.toList = [x]) (hat : c.argTypes.toList = T :: ats) : OBOK P o nt (oLen nt ty T x).g := by
  intro K t H s H' hn h
  have hop : opS ty o (tl nt t) (hl H) = opLen ty (hl H) T (ev (tl nt t) x) := by
    simp only [opS, ho, opCall, hc, ha, hat, evs]
  unfold oLen at h
  split at h
  · rename_i n e hk
    have h : intI n K = .ret s H' := h
    rw [intI_eq] at h
    exact via (p := True) (wr := []) hT (by rw [hop]; simp only [opLen, hk]; rfl) trivial hn h
  · rename_i q hk
    split at h
    · rename_i n e hk2
      have h : intI n K = .ret s H' := h
      rw [intI_eq] at h
      exact via (p := True) (wr := []) hT (by rw [hop]; simp only [opLen, hk, hk2]; rfl) trivial hn h
    · cases h
  · rename_i e hk
    have h : (gb nt x).g t (fun x => onL x (lnS K) (lnC K) (intI 0 K)) = .ret s H' := h
    rw [gb_eq] at h
    rcases onL_ret h with ⟨C, st, len, lim, hx, h2⟩ | ⟨C, off, z, len, cap, hx, h2⟩ | ⟨hx, h2⟩
    · rw [lnS, intI_eq] at h2
      exact via (p := True) (wr := []) hT (by rw [hop]; simp only [opLen, hk, hx]; rfl) trivial hn h2
    · rw [lnC, intI_eq] at h2
      exact via (p := True) (wr := []) hT (by rw [hop]; simp only [opLen, hk, hx]; rfl) trivial hn h2
    · rw [intI_eq] at h2
      exact via (p := True) (wr := []) hT (by rw [hop]; simp only [opLen, hk, hx]; rfl) trivial hn h2
  · rename_i hk
    have h : gvK nt x t (fun x => onS x fun b => intI b.length K) = .ret s H' := h
    rw [gvK_eq] at h
    obtain ⟨b, hx, h2⟩ := onS_ret h
    rw [intI_eq] at h2
    exact via (p := True) (wr := []) hT (by rw [hop]; simp only [opLen, hk, hx]; rfl) trivial hn h2
  · rename_i k e hk
    have h : gvK nt x t (fun x => onM x fun C => hgK H C fun c => onMap c fun _ n _ _ => forceN n fun n => K (.c (.i .i64 (.ofNat n))) [C] []) = .ret s H' := h
    rw [gvK_eq] at h
    obtain ⟨C, hx, h2⟩ := onM_ret h
    rw [hgK_eq] at h2
    obtain ⟨mk, n, l, sts, hd, h3⟩ := onMap_ret h2
    rw [forceN_eq] at h3
    exact via (p := True) (wr := []) hT (by rw [hop]; simp only [opLen, hk, hx, hget_hl, hd, den]; rfl) trivial hn h3
  · cases h
theorem mmK_ret (mx : Bool) {K : KK} {s : SV} {H' : CH} : ∀ {l : List SV} {k : IntKind} {n : Int}, mmK mx K l k n = .ret s H' → ∃ v, opMinMax mx (.c (.i k n)) l = .ok True v [] [] ∧ K v [] [] = .ret s H'
  | [], k, n, h => by
    have h : intK k n K = .ret s H' := h
    rw [intK_eq] at h
    exact ⟨_, rfl, h⟩
  | x :: l, k, n, h => by
    have h : onI x (fun _ m => ifB (ifB mx (clt n m) (clt m n)) (mmK mx K l k m) (mmK mx K l k n)) = .ret s H' := h
    obtain ⟨j, m, rfl, h1⟩ := onI_ret h
    clear h
    cases mx with
    | true =>
      simp only [ifB_eq, if_true, clt_eq, decide_eq_true_eq] at h1
      by_cases hc : n < m
      · rw [if_pos hc] at h1
        obtain ⟨v, h2, h3⟩ := mmK_ret true h1
        exact ⟨v, by simp only [opMinMax, if_pos hc]; exact h2, h3⟩
      · rw [if_neg hc] at h1
        obtain ⟨v, h2, h3⟩ := mmK_ret true h1
        exact ⟨v, by simp only [opMinMax, if_neg hc]; exact h2, h3⟩
    | false =>
      simp only [ifB_eq, Bool.false_eq_true, if_false, clt_eq, decide_eq_true_eq] at h1
      by_cases hc : m < n
      · rw [if_pos hc] at h1
        obtain ⟨v, h2, h3⟩ := mmK_ret false h1
        exact ⟨v, by simp only [opMinMax, if_pos hc]; exact h2, h3⟩
      · rw [if_neg hc] at h1
        obtain ⟨v, h2, h3⟩ := mmK_ret false h1
        exact ⟨v, by simp only [opMinMax, if_neg hc]; exact h2, h3⟩
theorem ok_mm (mx : Bool) {x : Operand} {r : List Operand} {c : Call} (hT : TyOK P ty) (ho : o.op = .call c) (hc : c.callee = .builtin (if mx then .max else .min)) (ha : c.args.toList = x :: r) :
    OBOK P o nt (fun K t _ => gvK nt x t fun x => onI x fun k n => gvsK nt t r fun l => mmK mx K l k n) := by
  intro K t H s H' hn h
  have h : gvK nt x t (fun x => onI x fun k n => gvsK nt t r fun l => mmK mx K l k n) = .ret s H' := h
  rw [gvK_eq] at h
  obtain ⟨k, n, hx, h1⟩ := onI_ret h
  rw [gvsK_eq] at h1
  obtain ⟨v, h2, h3⟩ := mmK_ret mx h1
  refine via (p := True) (wr := []) (ty := ty) hT ?_ trivial hn h3
  cases mx with
  | true => simp only [opS, ho, opCall, hc, ha, evs, if_true, hx]; exact h2
  | false => simp only [opS, ho, opCall, hc, ha, evs, Bool.false_eq_true, if_false, hx]; exact h2
end
end Go.Proofs.Ytladpdndjcgebaa.Kx
