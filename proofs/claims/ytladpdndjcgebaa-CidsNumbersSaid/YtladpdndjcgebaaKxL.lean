/- The machine's operations are the symbolic machine's (8): what is appended, copied, converted. -/
import Derived.Test.YtladpdndjcgebaaKxK
namespace Go.Proofs.Ytladpdndjcgebaa.Kx
set_option linter.unusedVariables false
open Go Go.Proofs.Ytladpdndjcgebaa.Sx

theorem lget_dl {m k : Nat} {d : D} (h : k < m) : lget (dl m d) k = dget k d := by rw [lget_eq, List.getD_eq_getElem?_getD, dl_get, if_pos h]; rfl
theorem lget_trd : ∀ (n off k : Nat) (d : D), k < n → lget (trd n off d) k = dget (off + k) d
  | 0, _, _, _, h => by omega
  | n + 1, off, 0, d, _ => rfl
  | n + 1, off, k + 1, d, h => by
    rw [trd, lget, lget_trd n (off + 1) k d (by omega)]
    congr 1
    omega
theorem row_lt {i m j z : Nat} (hi : i < m) (hj : j < z) : i * z + j < m * z := by
  calc i * z + j < i * z + z := by omega
    _ = (i + 1) * z := by rw [Nat.add_mul]; omega
    _ ≤ m * z := Nat.mul_le_mul_right _ (by omega)
noncomputable def bytesL (b : List UInt8) : List SV := b.map fun x => .c (.i .u8 (x.toNat : Int))
theorem bytesK_eq : ∀ (b : List UInt8) (K : List SV → EX), bytesK b K = K (bytesL b)
  | [], _ => rfl
  | x :: b, K => by
    show forceN x.toNat (fun n => bytesK b fun r => K (.c (.i .u8 (.ofNat n)) :: r)) = _
    rw [forceN_eq, bytesK_eq b]
    rfl
theorem lget_bytesL (b : List UInt8) (i : Nat) (h : i < b.length) : lget (bytesL b) i = .c (.i .u8 ((b.getD i 0).toNat : Int)) := by
  rw [lget_eq, bytesL, List.getD_eq_getElem?_getD, List.getElem?_map, List.getD_eq_getElem?_getD, List.getElem?_eq_getElem h]
  rfl

/-- A source: how many elements, their cells, what is read; what it is for the symbolic machine. -/
structure SrcOK (sz : Nat) (H : CH) (x : SV) (m : Nat) (g : List SV) (rd : List Nat) : Prop where
  len : g.length = m * sz
  src : ∀ U, ∃ f vc, srcOf sz (bestH U H) x = some (m, f, rd, vc) ∧ vc ∧
    (∀ ρ hP ρ' hP', RowsIs (fun c => c ∈ rd) H ρ hP U → Env.le ρ ρ' → HL.le hP hP' → ∀ i, i < m → ∀ j, j < sz → ∀ u, (f i j).is hP' u → (lget g (i * sz + j)).is ρ' hP' u) ∧
    (∀ i, i < m → ∀ j, j < sz → ∀ p, lget g (i * sz + j) = .c p → f i j = p)
theorem srcK_ret {sz : Nat} (hz : 0 < sz) {H : CH} {x : SV} {k : Nat → List SV → List Nat → EX} {s : SV} {H' : CH} (h : srcK sz H x k = .ret s H') : ∃ m g rd, SrcOK sz H x m g rd ∧ (∀ b, x ≠ .c (.s b)) ∧ k m g rd = .ret s H' := by
  unfold srcK at h
  rcases onL_ret h with ⟨C, st, len, lim, rfl, h1⟩ | ⟨C, off, z, len, cap, rfl, h1⟩ | ⟨rfl, h1⟩
  · rw [hgK_eq] at h1
    obtain ⟨T, z, n, d, hd, h2⟩ := onVs_ret h1
    obtain ⟨h3, h4⟩ := ifB_ret h2
    obtain ⟨h5, h6⟩ := ifB_ret h4
    rw [forceN_eq, trdK_eq] at h6
    obtain rfl := nbeq_eq h3
    have h5 : st + len ≤ n := ble_eq h5
    have h6 : k len (trd (len * z) (st * z) d) [C] = .ret s H' := h6
    refine ⟨len, _, [C], ⟨trd_length _ _ _, fun U => ?_⟩, (fun b e => by cases e), h6⟩
    have hidx : ∀ i, i < len → ∀ j, j < z → lget (trd (len * z) (st * z) d) (i * z + j) = lget (dl (n * z) d) ((st + i) * z + j) := fun i hi j hj => by
      rw [lget_trd _ _ _ _ (row_lt hi hj), lget_dl (row_lt (by omega) hj)]
      congr 1
      rw [Nat.add_mul]; omega
    refine ⟨sub st (bF (dl (n * z) d) (U C) z), st + len ≤ n, ?_, h5, fun ρ hP ρ' hP' hR hr hk i hi j hj u hu => ?_, fun i hi j hj p hp => ?_⟩
    · simp only [srcOf, best_vs hd hz, if_true]
    · rw [hidx i hi j hj]
      exact bF_is hr hk (hR C T z n d (by simp) hd hz) hu
    · rw [hidx i hi j hj] at hp
      show bF _ _ _ _ _ = p
      unfold bF
      rw [hp]
  · rw [hgK_eq] at h1
    obtain ⟨T, n, d, hd, h2⟩ := onCells_ret h1
    obtain ⟨h3, h4⟩ := ifB_ret h2
    obtain ⟨h5, h6⟩ := ifB_ret h4
    rw [trdK_eq] at h6
    obtain ⟨ps, hps, h7⟩ := pvK_ret h6
    obtain rfl := nbeq_eq h3
    have h5 : off + len * z ≤ n := ble_eq h5
    have hps : consts (trd (len * z) off d) = some ps := hps
    have h7 : k len (trd (len * z) off d) [C] = .ret s H' := h7
    have hlen := consts_len hps
    rw [trd_length] at hlen
    refine ⟨len, _, [C], ⟨trd_length _ _ _, fun U => ?_⟩, (fun b e => by cases e), h7⟩
    refine ⟨lit z ps, True, ?_, trivial, fun ρ hP ρ' hP' hR hr hk i hi j hj u hu => ?_, fun i hi j hj p hp => ?_⟩
    · have hps : consts (trd (len * z) off d) = some ps := hps
      simp only [srcOf, best_cells hd, if_true, lslice_dl h5, hps]
    · exact consts_at hps (by rw [hlen]; exact row_lt hi hj) hu
    · have := consts_get hps (k := i * z + j) (by rw [hlen]; exact row_lt hi hj)
      rw [this] at hp
      cases hp
      rfl
  · exact ⟨0, [], [], ⟨by simp, fun U => ⟨_, True, rfl, trivial, fun _ _ _ _ _ _ _ i hi => by omega, fun i hi => by omega⟩⟩, (fun b e => by cases e), h1⟩
theorem srcS_ret {sz : Nat} {H : CH} {x : SV} {k : Nat → List SV → List Nat → EX} {s : SV} {H' : CH} (h : srcS sz x k = .ret s H') : ∃ m g rd, SrcOK sz H x m g rd ∧ k m g rd = .ret s H' := by
  unfold srcS at h
  obtain ⟨b, rfl, h1⟩ := onS_ret h
  obtain ⟨h2, h3⟩ := ifB_ret h1
  obtain rfl := nbeq_eq h2
  rw [bytesK_eq] at h3
  refine ⟨_, _, _, ⟨by simp [bytesL], fun U => ⟨bytesF b, True, by simp [srcOf], trivial, fun _ _ _ _ _ _ _ i hi j hj u hu => ?_, fun i hi j hj p hp => ?_⟩⟩, h3⟩
  · obtain rfl : j = 0 := by omega
    rw [Nat.mul_one, Nat.add_zero, lget_bytesL b i hi]
    exact hu
  · obtain rfl : j = 0 := by omega
    rw [Nat.mul_one, Nat.add_zero, lget_bytesL b i hi] at hp
    cases hp
    rfl
section
variable {P : Program} {ty : Ty} {o : Oper} {nt : Nat}

/-- The new row: what stood there, and more behind it. -/
theorem new_row {e sz len m n : Nat} {U : Nat → List Value} {l : List SV} {d : D} {f g : Nat → Nat → PV} {G : List SV} {ρ' : Env} {c : Nat} {hP' h : HL} (hz : 0 < sz) (hG : G.length = m * sz) (hn : n = len + m)
    (hf : ∀ i, i < len → ∀ j, j < sz → ∀ u, (f i j).is hP' u → (dget (i * sz + j) d).is ρ' hP' u) (hg : ∀ i, i < m → ∀ j, j < sz → ∀ u, (g i j).is hP' u → (lget G (i * sz + j)).is ρ' hP' u)
    (hs : (Ch.vec e sz (len + m) (app len f g)).sat ρ' c hP' h) : (den (.vs e sz n (twr G (len * sz) d))).sat ρ' c hP' h := by
  subst hn
  refine vs_back hs hz (dl_length _ _) fun i hi j hj u hu => ?_
  rw [lget_dl (row_lt hi hj), dget_twr]
  unfold app at hu
  by_cases hin : i < len
  · rw [if_pos hin] at hu
    have := row_lt (z := sz) hin hj
    rw [if_neg (by omega)]
    exact hf i hin j hj u hu
  · rw [if_neg hin] at hu
    have h1 : len * sz ≤ i * sz := Nat.mul_le_mul_right _ (by omega)
    have h2 := row_lt (z := sz) (show i - len < m by omega) hj
    have h3 : (i - len) * sz = i * sz - len * sz := Nat.sub_mul _ _ _
    rw [if_pos ⟨by omega, by omega⟩, ← lget_eq, show i * sz + j - len * sz = (i - len) * sz + j by omega]
    exact hg (i - len) (by omega) j hj u hu
theorem consts_hidden : True := trivial
theorem ok_append {T S : Nat} {str : Bool} {d x : Operand} {c : Call} (hT : TyOK P ty) (hS : if str then (ty S).k = .str else ∃ e, (ty S).k = .sl e) (ho : o.op = .call c) (hc : c.callee = .builtin .append) (ha : c.args.toList = [d, x]) (hat : c.argTypes.toList = [T, S]) :
    OBOK P o nt (oAppend nt ty T str d x).g := by
  intro K t H s H' hn h
  have hop : ∀ H, opS ty o (tl nt t) H = opAppend ty H T (ev (tl nt t) d) (ev (tl nt t) x) := by
    intro H
    cases str with
    | true => rw [if_pos rfl] at hS; simp only [opS, ho, opCall, hc, ha, hat, evs, hS]
    | false =>
      rw [if_neg (by simp)] at hS
      obtain ⟨e, hS⟩ := hS
      simp only [opS, ho, opCall, hc, ha, hat, evs, hS]
  have hplain : plainSrc P S := by
    cases str with
    | true => rw [if_pos rfl] at hS; exact .inr (und_of hT hS rfl)
    | false =>
      rw [if_neg (by simp)] at hS
      obtain ⟨e, hS⟩ := hS
      exact .inl ⟨e, und_of hT hS rfl⟩
  have hargs : c.args = #[d, x] := by rw [← Array.toArray_toList (xs := c.args), ha]
  have hats : c.argTypes = #[T, S] := by rw [← Array.toArray_toList (xs := c.argTypes), hat]
  have hopd : d ∈ o.op.operands := by simp [ho, Op.operands, Call.operands, hc, hargs]
  have hopx : x ∈ o.op.operands := by simp [ho, Op.operands, Call.operands, hc, hargs]
  unfold oAppend at h
  split at h
  case h_2 => cases h
  rename_i e hk
  rw [ifB_eq] at h
  split at h
  · cases h
  rename_i hne
  simp only [Bool.or_eq_true, Nat.beq_eq, not_or, Bool.not_eq_true] at hne
  obtain ⟨hz, hoth⟩ := hne
  have hz : 0 < (ty e).sz := by omega
  have hu : P.underlying T = some (.slice e) := und_of hT hk rfl
  have hse := fun w => (hT e hoth).size_run (ty := ty) w
  have hsrc : ∃ m g rd, SrcOK (ty e).sz H (ev (tl nt t) x) m g rd ∧ appTo e (ty e).sz (ty e).by_ K H (ev (tl nt t) d) m g rd = .ret s H' := by
    cases str with
    | true =>
      have h : gvK nt x t (fun x => gvK nt d t fun d => srcS (ty e).sz x fun m g rd => appTo e (ty e).sz (ty e).by_ K H d m g rd) = .ret s H' := h
      rw [gvK_eq, gvK_eq] at h
      exact srcS_ret h
    | false =>
      have h : gvK nt x t (fun x => gvK nt d t fun d => srcK (ty e).sz H x fun m g rd => appTo e (ty e).sz (ty e).by_ K H d m g rd) = .ret s H' := h
      rw [gvK_eq, gvK_eq] at h
      obtain ⟨m, g, rd, h1, _, h2⟩ := srcK_ret hz h
      exact ⟨m, g, rd, h1, h2⟩
  obtain ⟨m, g, rd, hsr, h⟩ := hsrc
  have hcond : ¬ ((ty e).sz = 0 ∨ (ty e).k.isOther = true) := by rw [hoth]; simp; omega
  -- nothing to append
  have none_ : ∀ (rd' : List Nat), (∀ c, c ∈ rd → c ∈ rd') → m = 0 → (∀ ρ hP v, (ev (tl nt t) d).is ρ hP v → ∃ A n c, v = .slice A n c ∧ n ≤ c) → K (ev (tl nt t) d) rd' [] = .ret s H' → ∃ v rd wr, OpOK P o (tl nt t) (hl H) v rd (denW wr) ∧ WrOK H.n wr ∧ K v rd wr = .ret s H' := by
    intro rd' hrd hm hd hK
    subst hm
    refine ⟨_, rd', [], OpOK.pure fun ρ own w a hop hs => ?_, hn, hK⟩
    obtain ⟨U, hU1, hU2⟩ := best_ex (H := H) (fun c => c ∈ rd) (fun c hc => hs c (hrd c hc))
    obtain ⟨f, vc, h1, h2, _, _⟩ := hsr.src U
    obtain ⟨news, hnews⟩ := src_is (P := P) h1 h2 hz (hop x hopx) hU1
    have h3 := hop d hopd
    obtain ⟨A, n, c', h4, h5⟩ := hd _ _ _ h3
    have hr := run_app_none (ty' := o.type) hu hplain hse hnews (A := A) h5
    refine ⟨a.eval d, ?_, h3⟩
    simp only [execOp, ho, resolve, hc, Sem.run_bind, Sem.run_pure, Result.andThen_ok, invoke, builtin, hargs, hats]
    simp only [List.map_toArray, List.map_cons, List.map_nil]
    rw [h4, hr]
    rfl
  rcases onL_ret h with ⟨C, st, len, lim, hdv, h1⟩ | ⟨_, _, _, _, _, _, h1⟩ | ⟨hdv, h1⟩
  · rw [apS, hgK_eq] at h1
    obtain ⟨T', z, n, q, hd, h2⟩ := onVs_ret h1
    obtain ⟨h3, h4⟩ := ifB_ret h2
    obtain ⟨h5, h6⟩ := ifB_ret h4
    obtain ⟨h7, h8⟩ := ifB_ret h6
    obtain ⟨h9, h10⟩ := ifB_ret h8
    obtain rfl := nbeq_eq h3
    obtain rfl := nbeq_eq h5
    have h7 : st + len ≤ n := ble_eq h7
    simp only [Bool.and_eq_true, Nat.ble_eq] at h9
    have h91 : (len + m) * (ty T').by_ ≤ 140737488355328 := h9.1
    have h92 : len + m ≤ 9223372036854775807 := h9.2
    have hC := hg_lt hd (by simp)
    rw [ifB_eq] at h10
    split at h10
    · rename_i hm
      refine none_ (C :: rd) (fun c hc => by simp [hc]) (nbeq_eq hm) (fun ρ hP v hv => ?_) (by rw [hdv]; exact h10)
      rw [hdv] at hv
      obtain ⟨L, A, cap, _, h11, h12, _⟩ := hv
      exact ⟨A, len, cap, h11, h12⟩
    · rename_i hm
      have hm0 : 0 < m := by
        rcases Nat.eq_zero_or_pos m with h | h
        · subst h; exact (hm rfl).elim
        · exact h
      -- where the old cells lie
      have hold : ∀ (d0 : D), (d0 = q ∧ st = 0 ∨ d0 = twr (trd (Nat.mul len (ty T').sz) (Nat.mul st (ty T').sz) q) 0 []) → ∀ i, i < len → ∀ j, j < (ty T').sz → dget (i * (ty T').sz + j) d0 = lget (dl (n * (ty T').sz) q) ((st + i) * (ty T').sz + j) := by
        intro d0 h0 i hi j hj
        rw [lget_dl (row_lt (by omega) hj)]
        rcases h0 with ⟨rfl, rfl⟩ | rfl
        · rw [Nat.zero_add]
        · have h11 := row_lt (z := (ty T').sz) hi hj
          rw [dget_twr, trd_length, if_pos ⟨by omega, by show _ < 0 + len * (ty T').sz; omega⟩, Nat.sub_zero, ← lget_eq, show lget (trd (Nat.mul len (ty T').sz) (Nat.mul st (ty T').sz) q) (i * (ty T').sz + j) = _ from lget_trd (Nat.mul len (ty T').sz) (Nat.mul st (ty T').sz) _ q h11]
          congr 1
          show st * (ty T').sz + (i * (ty T').sz + j) = (st + i) * (ty T').sz + j
          rw [Nat.add_mul]; omega
      cases lim with
      | none =>
        simp only at h10
        have fin : ∀ d0 : D, (d0 = q ∧ st = 0 ∨ d0 = twr (trd (Nat.mul len (ty T').sz) (Nat.mul st (ty T').sz) q) 0 []) → apNew T' (ty T').sz K H rd [(C, .none)] len m g d0 = .ret s H' →
            ∃ v rd wr, OpOK P o (tl nt t) (hl H) v rd (denW wr) ∧ WrOK H.n wr ∧ K v rd wr = .ret s H' := by
          intro d0 h0 hK
          obtain ⟨hlt, h11⟩ := onNew_ret hK
          rw [twrK_eq, forceN_eq] at h11
          have h11 : K (.sl H.n 0 (len + m) none) rd [(C, .none), (H.n, .vs T' (ty T').sz (len + m) (twr g (len * (ty T').sz) d0))] = .ret s H' := h11
          refine ⟨_, _, _, at_best (s := .sl H.n 0 (len + m) none) (rd := rd) (wr := [(C, .none), (H.n, .vs T' (ty T').sz (len + m) (twr g (len * (ty T').sz) d0))]) hT fun U ρ own w a hopr hR => ?_, ⟨by omega, by omega, by rw [if_pos hC]; exact wr_new hlt _⟩, h11⟩
          obtain ⟨f, vc, hs1, hs2, hs3, hs4⟩ := hsr.src U
          refine ⟨(vc ∧ st + len ≤ n ∧ (len + m) * (ty T').by_ ≤ 140737488355328 ∧ len + m ≤ 9223372036854775807), .sl (hlen (bestH U H)) 0 (len + m) none, [(C, .none), (hlen (bestH U H), .vec T' (ty T').sz (len + m) (app len (sub st (bF (dl (n * (ty T').sz) q) (U C) (ty T').sz)) f))], by
            rw [hop]
            simp only [opAppend, hk, hcond, if_false, hs1, hdv, best_vs hd hz, and_self, if_true], ⟨hs2, h7, h91, h92⟩, by simp [denW, wnames, hlen_best, hlen_hl], fun ρ' own' w' v hr hk' hv hw => ⟨by rw [hlen_best, hlen_hl] at hv; exact hv, fun y hy => ?_⟩⟩
          simp only [denW, List.map_cons, List.map_nil, List.mem_cons, List.not_mem_nil, or_false] at hy
          rcases hy with rfl | rfl
          · trivial
          · have hw2 := hw (hlen (bestH U H), .vec T' (ty T').sz (len + m) (app len (sub st (bF (dl (n * (ty T').sz) q) (U C) (ty T').sz)) f)) (List.mem_cons_of_mem _ (List.mem_singleton.2 rfl))
            rw [hlen_best, hlen_hl] at hw2
            refine new_row (U := U) (l := []) hz hsr.len rfl (fun i hi j hj u hu' => ?_) (fun i hi j hj u hu' => hs3 ρ _ ρ' _ (fun c T z n d hc => hR c T z n d (.inl hc)) hr hk' i hi j hj u hu') hw2
            rw [hold d0 h0 i hi j hj]
            exact bF_is hr hk' (hR C _ _ _ _ (.inr (by simp [denW, wnames])) hd hz) hu'
        rw [ifB_eq] at h10
        split at h10
        · rename_i h0
          exact fin q (.inl ⟨rfl, nbeq_eq h0⟩) h10
        · rw [trdK_eq, twrK_eq] at h10
          exact fin _ (.inr rfl) h10
      | some r =>
        simp only at h10
        obtain ⟨h11, h12⟩ := ifB_ret h10
        have h11 : r < len + m := blt_eq h11
        rw [apMove, trdK_eq, twrK_eq] at h12
        obtain ⟨hlt, h13⟩ := onNew_ret h12
        rw [twrK_eq, forceN_eq] at h13
        have h13 : K (.sl H.n 0 (len + m) none) (C :: rd) [(H.n, .vs T' (ty T').sz (len + m) (twr g (len * (ty T').sz) (twr (trd (Nat.mul len (ty T').sz) (Nat.mul st (ty T').sz) q) 0 [])))] = .ret s H' := h13
        refine ⟨_, _, _, at_best (s := .sl H.n 0 (len + m) none) (rd := C :: rd) (wr := [(H.n, .vs T' (ty T').sz (len + m) (twr g (len * (ty T').sz) (twr (trd (Nat.mul len (ty T').sz) (Nat.mul st (ty T').sz) q) 0 [])))]) hT fun U ρ own w a hopr hR => ?_, wr_new hlt _, h13⟩
        obtain ⟨f, vc, hs1, hs2, hs3, hs4⟩ := hsr.src U
        refine ⟨(vc ∧ r < len + m ∧ st + len ≤ n ∧ (len + m) * (ty T').by_ ≤ 140737488355328 ∧ len + m ≤ 9223372036854775807), .sl (hlen (bestH U H)) 0 (len + m) none, [(hlen (bestH U H), .vec T' (ty T').sz (len + m) (app len (sub st (bF (dl (n * (ty T').sz) q) (U C) (ty T').sz)) f))], by
          rw [hop]
          simp only [opAppend, hk, hcond, if_false, hs1, hdv, best_vs hd hz, if_true], ⟨hs2, h11, h7, h91, h92⟩, by simp [denW, wnames, hlen_best, hlen_hl], fun ρ' own' w' v hr hk' hv hw => ⟨by rw [hlen_best, hlen_hl] at hv; exact hv, fun y hy => ?_⟩⟩
        simp only [denW, List.map_cons, List.map_nil, List.mem_singleton] at hy
        subst hy
        have hw2 := hw _ (List.mem_singleton.2 rfl)
        rw [hlen_best, hlen_hl] at hw2
        refine new_row (U := U) (l := []) hz hsr.len rfl (fun i hi j hj u hu' => ?_) (fun i hi j hj u hu' => hs3 ρ _ ρ' _ (fun c T z n d hc => hR c T z n d (.inl (by simp [show c ∈ rd from hc]))) hr hk' i hi j hj u hu') hw2
        rw [hold _ (.inr rfl) i hi j hj]
        exact bF_is hr hk' (hR C _ _ _ _ (.inl (by simp)) hd hz) hu'
  · cases h1
  · rw [apN, ifB_eq] at h1
    split at h1
    · rename_i hm
      refine none_ rd (fun c hc => hc) (nbeq_eq hm) (fun ρ hP v hv => ?_) (by rw [hdv]; exact h1)
      rw [hdv] at hv
      exact ⟨none, 0, 0, hv.1, Nat.le_refl _⟩
    · obtain ⟨h2, h3⟩ := ifB_ret h1
      simp only [Bool.and_eq_true, Nat.ble_eq] at h2
      obtain ⟨hlt, h4⟩ := onNew_ret h3
      rw [twrK_eq, forceN_eq] at h4
      have h4 : K (.sl H.n 0 (0 + m) none) rd [(H.n, .vs e (ty e).sz (0 + m) (twr g (0 * (ty e).sz) []))] = .ret s H' := h4
      rw [Nat.zero_add] at h4
      refine ⟨_, _, _, at_best (s := .sl H.n 0 m none) (rd := rd) (wr := [(H.n, .vs e (ty e).sz m (twr g (0 * (ty e).sz) []))]) hT fun U ρ own w a hopr hR => ?_, wr_new hlt _, h4⟩
      obtain ⟨f, vc, hs1, hs2, hs3, hs4⟩ := hsr.src U
      refine ⟨(vc ∧ m * (ty e).by_ ≤ 140737488355328 ∧ m ≤ 9223372036854775807), .sl (hlen (bestH U H)) 0 m none, [(hlen (bestH U H), .vec e (ty e).sz m f)], by
        rw [hop]
        simp only [opAppend, hk, hcond, if_false, hs1, hdv], ⟨hs2, h2.1, h2.2⟩, by simp [denW, wnames, hlen_best, hlen_hl], fun ρ' own' w' v hr hk' hv hw => ⟨by rw [hlen_best, hlen_hl] at hv; exact hv, fun y hy => ?_⟩⟩
      simp only [denW, List.map_cons, List.map_nil, List.mem_singleton] at hy
      subst hy
      have hw2 := hw _ (List.mem_singleton.2 rfl)
      rw [hlen_best, hlen_hl] at hw2
      refine new_row (U := U) (l := []) (f := fun _ _ => .x) hz hsr.len (by omega) (fun i hi => by omega) (fun i hi j hj u hu' => hs3 ρ _ ρ' _ (fun c T z n d hc => hR c T z n d (.inl hc)) hr hk' i hi j hj u hu') (by
        rw [Nat.zero_add]
        have : app 0 (fun _ _ => PV.x) f = f := by funext i j; simp [app]
        rw [this]; exact hw2)
end
end Go.Proofs.Ytladpdndjcgebaa.Kx
