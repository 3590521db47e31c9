/- The machine's operations are the symbolic machine's (9): copies, conversions, rows of given elements, rows cleared. -/
import Derived.Test.YtladpdndjcgebaaKxL
namespace Go.Proofs.Ytladpdndjcgebaa.Kx
set_option linter.unusedVariables false
open Go Go.Proofs.Ytladpdndjcgebaa.Sx

theorem tabE_get (sz : Nat) (g : Nat → Nat → PV) (hz : 0 < sz) : ∀ (n i0 k : Nat), k < n * sz → lget (tabE sz g i0 n) k = .c (g (i0 + k / sz) (k % sz))
  | 0, i0, k, h => by omega
  | n + 1, i0, k, h => by
    have htab : ∀ (m j k : Nat) (f : Nat → PV), k < m → lget (tab f j m) k = .c (f (j + k)) := by
      intro m
      induction m with
      | zero => intro j k f h; omega
      | succ m ih =>
        intro j k f h
        cases k with
        | zero => rfl
        | succ k => show lget (tab f (j + 1) m) k = _; rw [ih (j + 1) k f (by omega)]; congr 2; omega
    have htl : ∀ (m j : Nat) (f : Nat → PV), (tab f j m).length = m := by
      intro m
      induction m with
      | zero => intro j f; rfl
      | succ m ih => intro j f; simp [tab, ih]
    rw [tabE, lget_append, htl]
    split
    · rename_i hk
      rw [htab _ _ _ _ hk, Nat.div_eq_of_lt hk, Nat.mod_eq_of_lt hk, Nat.zero_add]
      rfl
    · rename_i hk
      rw [Nat.add_mul] at h
      rw [tabE_get sz g hz n (i0 + 1) (k - sz) (by omega)]
      have h1 : k / sz = (k - sz) / sz + 1 := by rw [Nat.div_eq_sub_div hz (by omega)]
      have h2 : k % sz = (k - sz) % sz := by rw [Nat.mod_eq_sub_mod (by omega)]
      rw [h1, h2]
      congr 2
      omega
theorem tabE_len (sz : Nat) (g : Nat → Nat → PV) : ∀ (n i : Nat), (tabE sz g i n).length = n * sz
  | 0, _ => by simp [tabE]
  | n + 1, i => by
    have htl : ∀ (m j : Nat) (f : Nat → PV), (tab f j m).length = m := by
      intro m
      induction m with
      | zero => intro j f; rfl
      | succ m ih => intro j f; simp [tab, ih]
    simp [tabE, htl, tabE_len sz g n, Nat.add_mul]
    omega
section
variable {P : Program} {ty : Ty} {o : Oper} {nt : Nat}

theorem ok_copy {T S : Nat} {str : Bool} {d x : Operand} {c : Call} (hT : TyOK P ty) (ho : o.op = .call c) (hc : c.callee = .builtin .copy) (ha : c.args.toList = [d, x]) (hat : c.argTypes.toList = [T, S]) :
    OBOK P o nt (oCopy nt ty T str d x).g := by
  intro K t H s H' hn h
  have hop : ∀ H, opS ty o (tl nt t) H = opCopy ty H T (ev (tl nt t) d) (ev (tl nt t) x) := by
    intro H
    simp only [opS, ho, opCall, hc, ha, hat, evs]
  unfold oCopy at h
  split at h
  case h_2 => cases h
  rename_i e hk
  rw [ifB_eq] at h
  split at h
  · cases h
  rename_i hne
  simp only [Bool.or_eq_true, Nat.beq_eq, not_or, Bool.not_eq_true] at hne
  obtain ⟨hz, hoth⟩ := hne
  have hz : 0 < (ty e).sz := by omega
  have hsrc : ∃ m g rd, SrcOK (ty e).sz H (ev (tl nt t) x) m g rd ∧ copyTo (ty e).sz K H (ev (tl nt t) d) m g rd = .ret s H' := by
    cases str with
    | true =>
      have h : gvK nt x t (fun x => gvK nt d t fun d => srcS (ty e).sz x fun m g rd => copyTo (ty e).sz K H d m g rd) = .ret s H' := h
      rw [gvK_eq, gvK_eq] at h
      exact srcS_ret h
    | false =>
      have h : gvK nt x t (fun x => gvK nt d t fun d => srcK (ty e).sz H x fun m g rd => copyTo (ty e).sz K H d m g rd) = .ret s H' := h
      rw [gvK_eq, gvK_eq] at h
      obtain ⟨m, g, rd, h1, _, h2⟩ := srcK_ret hz h
      exact ⟨m, g, rd, h1, h2⟩
  obtain ⟨m, g, rd, hsr, h⟩ := hsrc
  have hcond : ¬ ((ty e).sz = 0 ∨ (ty e).k.isOther = true) := by rw [hoth]; simp; omega
  rcases onL_ret h with ⟨C, st, len, lim, hdv, h1⟩ | ⟨C, off, z, len, cap, hdv, h1⟩ | ⟨hdv, h1⟩
  · rw [hgK_eq] at h1
    obtain ⟨T', z, n, q, hd, h2⟩ := onVs_ret h1
    obtain ⟨h3, h4⟩ := ifB_ret h2
    obtain ⟨h5, h6⟩ := ifB_ret h4
    obtain rfl := nbeq_eq h3
    have h5 : st + len ≤ n := ble_eq h5
    rw [forceN_eq, twrK_eq] at h6
    have hC := hg_lt hd (by simp)
    have h6 : K (.c (.i .i64 ((min m len : Nat) : Int))) rd [(C, .vs T' (ty e).sz n (twr (g.take (min m len * (ty e).sz)) (st * (ty e).sz) q))] = .ret s H' := h6
    refine ⟨_, _, _, at_best (s := .c (.i .i64 ((min m len : Nat) : Int))) (rd := rd) (wr := [(C, .vs T' (ty e).sz n (twr (g.take (min m len * (ty e).sz)) (st * (ty e).sz) q))]) hT fun U ρ own w a hopr hR => ?_, ⟨by omega, by omega, by rw [if_pos hC]; exact hn⟩, h6⟩
    obtain ⟨f, vc, hs1, hs2, hs3, hs4⟩ := hsr.src U
    refine ⟨(vc ∧ st + len ≤ n), .c (.i .i64 ((min m len : Nat) : Int)), [(C, .vec T' (ty e).sz n (over (bF (dl (n * (ty e).sz) q) (U C) (ty e).sz) st (min m len) f))], by
      rw [hop]
      simp only [opCopy, hk, hcond, if_false, hs1, hdv, best_vs hd hz, if_true], ⟨hs2, h5⟩, by simp [denW, wnames], fun ρ' own' w' v hr hk' hv hw => ⟨hv, fun y hy => ?_⟩⟩
    simp only [denW, List.map_cons, List.map_nil, List.mem_singleton] at hy
    subst hy
    have hw1 := hw _ (List.mem_singleton.2 rfl)
    refine vs_back hw1 hz (dl_length _ _) fun i hi j hj u hu => ?_
    rw [lget_dl (row_lt hi hj), dget_twr]
    have hgl : (g.take (min m len * (ty e).sz)).length = min m len * (ty e).sz := by
      rw [List.length_take, hsr.len]
      exact Nat.min_eq_left (Nat.mul_le_mul_right _ (Nat.min_le_left _ _))
    rw [hgl]
    unfold over at hu
    by_cases hin : st ≤ i ∧ i < st + min m len
    · rw [if_pos hin] at hu
      have h7 : i - st < m := by omega
      have h8 := hs3 ρ _ ρ' _ (fun c T z n d hc => hR c T z n d (.inl hc)) hr hk' (i - st) h7 j hj u hu
      have h9 := row_lt (z := (ty e).sz) (show i - st < min m len by omega) hj
      have h10 : (i - st) * (ty e).sz = i * (ty e).sz - st * (ty e).sz := Nat.sub_mul _ _ _
      have h11 : st * (ty e).sz ≤ i * (ty e).sz := Nat.mul_le_mul_right _ hin.1
      rw [if_pos ⟨by omega, by omega⟩, show i * (ty e).sz + j - st * (ty e).sz = (i - st) * (ty e).sz + j by omega, List.getD_eq_getElem?_getD, List.getElem?_take, if_pos h9]
      rw [lget_eq, List.getD_eq_getElem?_getD] at h8
      exact h8
    · rw [if_neg hin] at hu
      have h8 := bF_is hr hk' (hR C _ _ _ _ (.inr (by simp [denW, wnames])) hd hz) hu
      rw [lget_dl (row_lt hi hj)] at h8
      rw [if_neg]
      · exact h8
      · rintro ⟨ha1, ha2⟩
        apply hin
        constructor
        · rcases Nat.lt_or_ge i st with h | h
          · have := row_lt (z := (ty e).sz) h hj
            omega
          · exact h
        · rcases Nat.lt_or_ge i (st + min m len) with h | h
          · exact h
          · have := Nat.mul_le_mul_right (ty e).sz h
            rw [Nat.add_mul] at this
            omega
  · rw [hgK_eq] at h1
    obtain ⟨T', n, q, hd, h2⟩ := onCells_ret h1
    obtain ⟨h3, h4⟩ := ifB_ret h2
    obtain ⟨h5, h6⟩ := ifB_ret h4
    obtain rfl := nbeq_eq h3
    have h5 : off + len * (ty e).sz ≤ n := ble_eq h5
    rw [forceN_eq, twrK_eq] at h6
    have hC := hg_lt hd (by simp)
    have h6 : K (.c (.i .i64 ((min m len : Nat) : Int))) rd [(C, .cells T' n (twr (g.take (min m len * (ty e).sz)) off q))] = .ret s H' := h6
    refine ⟨_, _, _, at_best (s := .c (.i .i64 ((min m len : Nat) : Int))) (rd := rd) (wr := [(C, .cells T' n (twr (g.take (min m len * (ty e).sz)) off q))]) hT fun U ρ own w a hopr hR => ?_, ⟨by omega, by omega, by rw [if_pos hC]; exact hn⟩, h6⟩
    obtain ⟨f, vc, hs1, hs2, hs3, hs4⟩ := hsr.src U
    have hmin : min m len * (ty e).sz ≤ len * (ty e).sz := Nat.mul_le_mul_right _ (Nat.min_le_right _ _)
    have hput : lput off (tabE (ty e).sz f 0 (min m len)) (dl n q) = some (dl n (twr (tabE (ty e).sz f 0 (min m len)) off q)) := lput_dl (by rw [tabE_len]; omega)
    refine ⟨vc, .c (.i .i64 ((min m len : Nat) : Int)), [(C, .cells T' (dl n (twr (tabE (ty e).sz f 0 (min m len)) off q)))], by
      rw [hop]
      simp only [opCopy, hk, hcond, if_false, hs1, hdv, best_cells hd, if_true, hput], hs2, by simp [denW, wnames], fun ρ' own' w' v hr hk' hv hw => ⟨hv, fun y hy => ?_⟩⟩
    simp only [denW, List.map_cons, List.map_nil, List.mem_singleton] at hy
    subst hy
    obtain ⟨L, arr, w1, w2, w3, w4, w5⟩ := hw _ (List.mem_singleton.2 rfl)
    have hal := isL_length w5
    refine ⟨L, arr, w1, w2, by rw [w3, dl_length, dl_length], w4, isL_of (by rw [hal, dl_length, dl_length]) fun k hk2 => ?_⟩
    rw [dl_length] at hk2
    have h7 := isL_at w5 k
    rw [lget_dl hk2, dget_twr] at h7 ⊢
    have hgl : (g.take (min m len * (ty e).sz)).length = min m len * (ty e).sz := by
      rw [List.length_take, hsr.len]
      exact Nat.min_eq_left (Nat.mul_le_mul_right _ (Nat.min_le_left _ _))
    rw [tabE_len] at h7
    rw [hgl]
    by_cases hin : off ≤ k ∧ k < off + min m len * (ty e).sz
    · rw [if_pos hin] at h7 ⊢
      rw [← lget_eq, tabE_get _ _ hz _ _ _ (by omega), Nat.zero_add] at h7
      have h8 : (k - off) / (ty e).sz < min m len := by rw [Nat.div_lt_iff_lt_mul hz]; omega
      have h9 := hs3 ρ _ ρ' _ (fun c T z n d hc => hR c T z n d (.inl hc)) hr hk' ((k - off) / (ty e).sz) (by omega) ((k - off) % (ty e).sz) (Nat.mod_lt _ hz) _ h7
      have h10 : (k - off) / (ty e).sz * (ty e).sz + (k - off) % (ty e).sz = k - off := by rw [Nat.mul_comm]; exact Nat.div_add_mod _ _
      rw [h10, lget_eq, List.getD_eq_getElem?_getD] at h9
      rw [List.getD_eq_getElem?_getD, List.getElem?_take, if_pos (by omega)]
      exact h9
    · rw [if_neg hin] at h7 ⊢
      exact h7
  · cases h1
theorem toBytes_ret : ∀ {l : List SV} {b : List UInt8}, toBytes l = some b → b.length = l.length ∧ ∀ i, i < l.length → ∃ n, lget l i = .c (.i .u8 n) ∧ b.getD i 0 = UInt8.ofNat n.toNat
  | [], b, h => by
    have h : some [] = some b := h
    cases h
    exact ⟨rfl, fun i hi => by simp at hi⟩
  | s :: l, b, h => by
    have h : (match byteS s with
      | some b => (match toBytes l with | some r => some (b :: r) | none => none)
      | none => none) = some b := h
    split at h
    · rename_i b0 hb0
      split at h
      · rename_i r hr
        cases h
        obtain ⟨h1, h2⟩ := toBytes_ret hr
        refine ⟨by simp [h1], fun i hi => ?_⟩
        cases i with
        | zero =>
          unfold byteS at hb0
          split at hb0
          · rename_i n
            cases hb0
            exact ⟨n, rfl, rfl⟩
          · cases hb0
        | succ i => exact h2 i (by simpa using hi)
      · cases h
    · cases h
theorem ok_convert {S D : Nat} {x : Operand} (hT : TyOK P ty) (ho : o.op = .convert S D x) : OBOK P o nt (oConvert nt ty S D x).g := by
  intro K t H s H' hn h
  unfold oConvert at h
  rw [ifB_eq] at h
  split at h
  · cases h
  rename_i hS
  simp only [Bool.not_eq_true] at hS
  split at h
  · rename_i k hk
    have h : (gb nt x).g t (fun x => onI x fun _ n => intW k n K) = .ret s H' := h
    rw [gb_eq] at h
    obtain ⟨j, n, hx, h1⟩ := onI_ret h
    rw [intW_eq] at h1
    exact via (p := True) (wr := []) hT (by simp only [opS, ho, opConvert, hS, hk, hx]; rfl) trivial hn h1
  · rename_i hk
    split at h
    · have h : gvK nt x t (fun x => onS x fun b => K (.c (.s b)) [] []) = .ret s H' := h
      rw [gvK_eq] at h
      obtain ⟨b, hx, h1⟩ := onS_ret h
      exact via (p := True) (wr := []) hT (by simp only [opS, ho, opConvert, hS, hk, hx]; rfl) trivial hn h1
    · rename_i e hke
      split at h
      · rename_i hku
        have h : gvK nt x t (fun x => srcK 1 H x fun _ l rd => strOf K rd (toBytes l)) = .ret s H' := h
        rw [gvK_eq] at h
        obtain ⟨m, g, rd, hsr, hnb, h1⟩ := srcK_ret (by omega) h
        unfold strOf at h1
        split at h1
        · rename_i b hb
          obtain ⟨hbl, hb2⟩ := toBytes_ret hb
          have hgl := hsr.len
          rw [Nat.mul_one] at hgl
          refine ⟨_, _, [], at_best (s := .c (.s b)) (rd := rd) (wr := []) hT fun U ρ own w a hopr hR => ?_, hn, h1⟩
          obtain ⟨f, vc, hs1, hs2, hs3, hs4⟩ := hsr.src U
          have hf : ∀ i, i < m → ∃ n, f i 0 = .i .u8 n ∧ b.getD i 0 = UInt8.ofNat n.toNat := fun i hi => by
            obtain ⟨n, h2, h3⟩ := hb2 i (by omega)
            exact ⟨n, hs4 i hi 0 (by omega) _ (by rw [Nat.mul_one, Nat.add_zero]; exact h2), h3⟩
          have hbytes : bytesOf m f = b := by
            apply List.ext_getElem?
            intro i
            simp only [bytesOf, List.getElem?_map, rg]
            by_cases hi : i < m
            · obtain ⟨n, h2, h3⟩ := hf i hi
              rw [if_pos hi, Option.map_some, h2, List.getElem?_eq_getElem (by omega)]
              rw [List.getD_eq_getElem?_getD, List.getElem?_eq_getElem (by omega)] at h3
              simp only [Option.getD_some] at h3
              rw [h3]
              rfl
            · rw [if_neg hi, List.getElem?_eq_none (by omega)]; rfl
          have hoc : opConvert ty (bestH U H) S D (ev (tl nt t) x) = .ok (vc ∧ ∀ i, i < m → IsByte (f i 0)) (.c (.s (bytesOf m f))) rd [] := by
            generalize hX : ev (tl nt t) x = X at hs1 hnb
            unfold opConvert
            simp only [hS, hk]
            cases X with
            | c p => cases p with
              | s b' => exact (hnb b' rfl).elim
              | _ => simp only [hke, hku, hs1]
            | _ => simp only [hke, hku, hs1]
          refine ⟨(vc ∧ ∀ i, i < m → IsByte (f i 0)), .c (.s (bytesOf m f)), [], by simp only [opS, ho]; exact hoc, ⟨hs2, fun i hi => by obtain ⟨n, h2, _⟩ := hf i hi; exact ⟨n, h2⟩⟩, rfl, fun ρ' own' w' v hr hk' hv hw => ⟨by rw [hbytes] at hv; exact hv, fun y hy => by cases hy⟩⟩
        · cases h1
      · cases h
    · cases h
  · rename_i e hk
    split at h
    · split at h
      · rename_i hku
        have h : gvK nt x t (fun x => onS x fun b => onNew H fun c => forceN b.length fun n => ifB (Nat.ble n 9223372036854775807) (bytesK b fun l => twrK l 0 [] fun t => K (.sl c 0 n none) [] [(c, .vs e 1 n t)]) (.bad "convert: great")) = .ret s H' := h
        rw [gvK_eq] at h
        obtain ⟨b, hx, h1⟩ := onS_ret h
        obtain ⟨hlt, h2⟩ := onNew_ret h1
        rw [forceN_eq] at h2
        obtain ⟨h3, h4⟩ := ifB_ret h2
        rw [bytesK_eq, twrK_eq] at h4
        have h3 := ble_eq h3
        refine ⟨_, _, _, at_world (s := .sl H.n 0 b.length none) (rd := []) (wr := denW [(H.n, .vs e 1 b.length (twr (bytesL b) 0 []))]) hT fun ρ own w a hop hsat _ => ?_, wr_new hlt _, h4⟩
        refine ⟨tl nt t, hl H, (b.length ≤ 9223372036854775807), .sl H.n 0 b.length none, [], [(H.n, .vec e 1 b.length (bytesF b))], hop, fun c hc => hsat c hc, rfl, rfl, ?_, h3, fun ρ' own' w' v hr hk' hv' hw => ⟨hv', fun y hy => ?_⟩⟩
        · simp only [opS, ho, opConvert, hS, hk, hku, hx, hlen_hl]
        · simp only [denW, List.map_cons, List.map_nil, List.mem_singleton] at hy
          subst hy
          refine vs_back (hw _ (List.mem_singleton.2 rfl)) (by omega) (dl_length _ _) fun i hi j hj u hu => ?_
          obtain rfl : j = 0 := by omega
          rw [dl_twr (by simp [bytesL]), Nat.mul_one, Nat.add_zero, lget_bytesL b i hi]
          exact hu
      · cases h
    · cases h
  · cases h
end
end Go.Proofs.Ytladpdndjcgebaa.Kx
