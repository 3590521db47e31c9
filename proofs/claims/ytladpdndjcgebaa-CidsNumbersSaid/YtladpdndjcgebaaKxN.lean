/- The machine's operations (10): rows of given elements, rows cleared. -/
import Derived.Test.YtladpdndjcgebaaKxM
namespace Go.Proofs.Ytladpdndjcgebaa.Kx
set_option linter.unusedVariables false
open Go Go.Proofs.Ytladpdndjcgebaa.Sx

section
variable {P : Program} {ty : Ty} {o : Oper} {nt : Nat} {tm : List SV} {H : List Ch}

theorem build_row {T n e : Nat} {l : List SV} {parts : Array (Nat × Operand)} (hT : TyOK P ty) (ho : o.op = .buildSlice T n parts) (hk : (ty T).k = .sl e) (hoth : (ty e).k.isOther = false) (hle : n * (ty e).sz ≤ 16777216) (hpos : 0 < (ty e).sz)
    (hf : fillS (placeA (ty e).sz) (rep n (mapC (ty e).z)) tm parts.toList = some l) (hflat : flat l = true) : OpOK P o tm H (.sl (hlen H) 0 n none) [] [(hlen H, .vs e (ty e).sz l)] := by
  have hopp : ∀ x ∈ parts.toList, x.2 ∈ o.op.operands := by
    intro x hx
    simp only [ho, Op.operands, List.mem_toArray, List.mem_map]
    exact ⟨x, hx, rfl⟩
  refine OpOK.step fun ρ own w a hop _ hn => ?_
  rw [news_new] at hn ⊢
  have hu : P.underlying T = some (.slice e) := und_of hT hk rfl
  obtain ⟨i, z, hi, _, hse', _, _, hz, hzr⟩ := (hT e hoth).info_run (ty := ty) w
  have hse := (hT e hoth).size_run (ty := ty) w
  have hzs := mapC_is (ρ := ρ) (hz.1 (view own 0 w))
  have hzsz : z.cells.size = (ty e).sz := hz.2.1
  have h0 := rep_is hzs n
  rw [← zeros_eq z.cells (by omega) n, hzsz] at h0
  obtain ⟨cs, hfill, his, hcs⟩ := fill_is hf h0 (fun x hx => hop x.2 (hopp x hx))
  rw [← parts_map] at hfill
  have hcs : cs.size = n * (ty e).sz := by rw [hcs]; simp
  have hll : l.length = n * (ty e).sz := by rw [← isL_length his, Array.length_toList, hcs]
  obtain ⟨hst, hv⟩ := Stp.new (wrs := wnames [(hlen H, Ch.vs e (ty e).sz l)]) (ρ := ρ) (own := own) (w := w) (w' := w.alloc (.cells cs e)) (hlen H) ⟨w.heap.size, 0, n, (ty e).sz⟩ (.cells cs e) rfl rfl rfl rfl rfl
  have h00 := hst.sub 0 (by omega)
  have hnm : n ≤ maxLen := by
    have : n * 1 ≤ n * (ty e).sz := Nat.mul_le_mul_left _ hpos
    unfold maxLen; omega
  refine ⟨.slice (some ⟨w.heap.size, 0, none⟩) n n, w.alloc (.cells cs e), _, _, .inl ?_, hst, ⟨⟨w.heap.size, 0, n, (ty e).sz⟩, _, n, by simp [Env.set], rfl, Nat.le_refl _, fun _ => by simp, by simp, by simp⟩, fun x hx => ?_⟩
  · simp only [execOp, ho]
    have hzif : (if n * (ty e).sz = 0 then Pure.pure #[] else do Pure.pure (← zeroValue e).cells : Sem (Array Value)).run P w = .ok (if n * (ty e).sz = 0 then #[] else z.cells) w := by
      split <;> simp [hzr]
    by_cases hn0 : n * (ty e).sz = 0
    · have e0 : Array.range 0 = #[] := rfl
      simp only [hn0, e0, Array.map_empty] at hfill
      change Instr.fill (fun i => some (i * (ty e).sz, (ty e).sz)) _ _ = _ at hfill
      simp only [Instr.buildSlice, Sem.run_bind, run_underlying hu, Result.andThen_ok, hse, hn0, if_true, Sem.run_pure]
      simp only [e0, Array.map_empty, hfill]
      simp [newRow]
    · change Instr.fill (fun i => some (i * (ty e).sz, (ty e).sz)) _ _ = _ at hfill
      rw [← hzsz] at hfill
      have hif : ¬ n * (ty e).sz > 2 ^ 24 := by omega
      simp only [Instr.buildSlice, Sem.run_bind, run_underlying hu, Result.andThen_ok, hse, if_neg hn0, if_neg hif, Sem.run_pure, hzr]
      rw [← hzsz, hfill]
      simp [newRow]
  · simp only [List.mem_singleton] at hx
    subst hx
    have hle' : Env.le ρ (ρ.set (hlen H) ⟨w.heap.size, 0, n, (ty e).sz⟩) := hst.envLe hn
    refine ⟨⟨w.heap.size, 0, n, (ty e).sz⟩, by simp [Env.set], rfl, by rw [hll]; exact Nat.le_refl _, hnm, fun h => by omega, fun _ => ⟨cs, (0, 0), hv, by simp only; omega, unfrozen0 _, cs.toList, isL_mono hle' h00 his, fun k u hk => ⟨?_, ?_⟩⟩⟩
    · rw [Nat.zero_add, ← Array.getElem?_toList]; exact hk
    · exact flat_one hflat his u (List.mem_of_getElem? hk)
end
section
variable {P : Program} {ty : Ty} {o : Oper} {nt : Nat}
theorem ok_buildSlice {T n : Nat} {parts : Array (Nat × Operand)} (hT : TyOK P ty) (ho : o.op = .buildSlice T n parts) : OBOK P o nt (oBuildSlice nt ty T n parts.toList).g := by
  intro K t H s H' hn h
  unfold oBuildSlice at h
  split at h
  · rename_i e hk
    rw [ifB_eq] at h
    split at h
    · cases h
    rename_i hc
    simp only [Bool.or_eq_true, Nat.beq_eq, Nat.blt_eq, not_or, Bool.not_eq_true] at hc
    obtain ⟨⟨hoth, hle⟩, hz⟩ := hc
    have hle : ¬ 16777216 < n * (ty e).sz := hle
    obtain ⟨hlt, h1⟩ := onNew_ret h
    rw [zeroK, twrK_eq] at h1
    obtain ⟨d', h2, h3⟩ := fillK_ret h1
    rw [trdK_eq, trd_dl] at h3
    obtain ⟨h4, h5⟩ := ifB_ret h3
    have h2 : fillS (placeA (ty e).sz) (dl (n * (ty e).sz) (twr (rep n (mapC (ty e).z)) 0 [])) (tl nt t) parts.toList = some (dl (n * (ty e).sz) d') := h2
    rw [dl_twr (by rw [rep_length, mapC_length, ty_z hT hoth])] at h2
    have := build_row (H := hl H) hT ho hk hoth (by omega) (by omega) h2 (flatL_eq h4)
    refine ⟨.sl H.n 0 n none, [], [(H.n, .vs e (ty e).sz n d')], ?_, wr_new hlt _, h5⟩
    rw [den_new]
    rw [hlen_hl] at this ⊢
    exact this
  · cases h
theorem ok_clear {T : Nat} {x : Operand} {c : Call} {ats : List Nat} (hT : TyOK P ty) (ho : o.op = .call c) (hc : c.callee = .builtin .clear) (ha : c.args.toList = [x]) (hat : c.argTypes.toList = T :: ats) : OBOK P o nt (oClear nt ty T x).g := by
  intro K t H s H' hn h
  have hargs : c.args = #[x] := by rw [← Array.toArray_toList (xs := c.args), ha]
  have hat0 : c.argTypes[0]? = some T := by rw [← Array.getElem?_toList, hat]; rfl
  have hopx : x ∈ o.op.operands := by simp [ho, Op.operands, Call.operands, hc, hargs]
  unfold oClear at h
  split at h
  case h_2 => cases h
  rename_i e hk
  rw [ifB_eq] at h
  split at h
  · cases h
  rename_i hne
  simp only [Bool.or_eq_true, Nat.beq_eq, not_or, Bool.not_eq_true] at hne
  obtain ⟨hz, hoth⟩ := hne
  have hz : 0 < (ty e).sz := by omega
  have hu : P.underlying T = some (.slice e) := und_of hT hk rfl
  have h : gvK nt x t (fun x => onL x
      (fun C st len _ => hgK H C fun c => onVs c fun T z n t => ifB (Nat.beq z (ty e).sz) (ifB (Nat.ble (Nat.add st len) n) (twrK (rep len (mapC (ty e).z)) (Nat.mul st z) t fun t => K undefS [] [(C, .vs T z n t)]) (.bad "clear: row")) (.bad "clear: size"))
      (fun _ _ _ _ _ => .bad "clear: cells") (.bad "clear: nil")) = .ret s H' := h
  rw [gvK_eq] at h
  rcases onL_ret h with ⟨C, st, len, lim, hx, h1⟩ | ⟨C, off, z, len, cap, hx, h1⟩ | ⟨hx, h1⟩
  · rw [hgK_eq] at h1
    obtain ⟨T', z, n, q, hd, h2⟩ := onVs_ret h1
    obtain ⟨h3, h4⟩ := ifB_ret h2
    obtain ⟨h5, h6⟩ := ifB_ret h4
    obtain rfl := nbeq_eq h3
    have h5 : st + len ≤ n := ble_eq h5
    rw [twrK_eq] at h6
    have hC := hg_lt hd (by simp)
    have h6 : K undefS [] [(C, .vs T' (ty e).sz n (twr (rep len (mapC (ty e).z)) (st * (ty e).sz) q))] = .ret s H' := h6
    refine ⟨_, _, _, OpOK.step (s := undefS) (wr := denW [(C, .vs T' (ty e).sz n (twr (rep len (mapC (ty e).z)) (st * (ty e).sz) q))]) fun ρ own w a hop hs hn' => ?_, ⟨by omega, by omega, by rw [if_pos hC]; exact hn⟩, h6⟩
    have hnews : newsOf (hl H) (denW [(C, .vs T' (ty e).sz n (twr (rep len (mapC (ty e).z)) (st * (ty e).sz) q))]) = [] := news_one (by rw [den_vs hd]; simp) _
    rw [hnews]
    have h7 := hop x hopx
    rw [hx] at h7
    obtain ⟨L, A, cap, hL, hev, hlc, hA, hcap, hlim, hnn⟩ := h7
    have hsat := hs C (.inr (by simp [denW, wnames]))
    rw [den_vs hd] at hsat
    have hex : ∀ w' , (Builtin.clear_ c.argTypes o.type #[.slice A len cap]).run P w = .ok (.tuple #[]) w' → (execOp a.eval o).run P w = .ok (.value undef) w' := by
      intro w' hr
      simp only [execOp, ho, resolve, hc, Sem.run_bind, Sem.run_pure, Result.andThen_ok, invoke, builtin, hargs]
      simp only [List.map_toArray, List.map_cons, List.map_nil, hev]
      rw [hr]
      rfl
    rcases Nat.eq_zero_or_pos len with h0 | h0
    · subst h0
      have hr : (Builtin.clear_ c.argTypes o.type #[.slice A 0 cap]).run P w = .ok (.tuple #[]) w := by
        cases A <;> simp [Builtin.clear_, hat0, run_underlying hu]
      refine ⟨undef, w, ρ, own, .inl (hex w hr), ⟨fun _ _ => rfl, fun _ _ => HL.le_refl _, Nat.le_refl _, rfl, rfl, rfl⟩, ⟨#[], rfl, rfl⟩, fun y hy => ?_⟩
      simp only [denW, List.map_cons, List.map_nil, List.mem_singleton] at hy
      subst hy
      exact hsat
    · obtain ⟨L', hL', hLs, hlen, hcm, _, hr0⟩ := hsat
      obtain rfl : L = L' := by rw [hL] at hL'; simpa using hL'
      rw [dl_length] at hlen
      obtain ⟨arr, fr, hb, hfit, hfz, us, hus, hus2⟩ := hr0 (by omega)
      have hul := isL_length hus
      rw [dl_length] at hul
      obtain ⟨i, z0, hi, _, hse', _, _, hzz, hzr⟩ := (hT e hoth).info_run (ty := ty) w
      have hzs := mapC_is (ρ := ρ) (hzz.1 (view own 0 w))
      have hzsz : z0.cells.size = (ty e).sz := hzz.2.1
      have hrep := rep_is hzs len
      have hzl : (List.replicate len z0.cells.toList).flatten.length = len * (ty e).sz := by
        rw [isL_length hrep, rep_length, mapC_length, ty_z hT hoth]
      have hzf : ∀ u ∈ (List.replicate len z0.cells.toList).flatten, u.oneCell' = true := by
        have hfl : ∀ m, flat (rep m (mapC (ty e).z)) = true := by
          have h1 : ∀ (l : List PV) (r : List SV), flat r = true → flat (mapC l ++ r) = true := by
            intro l
            induction l with
            | nil => intro r h; exact h
            | cons p l ih => intro r h; exact ih r h
          intro m
          induction m with
          | zero => rfl
          | succ m ih => exact h1 _ _ ih
        exact flat_one (hfl len) hrep
      have hAa := hA (by omega)
      have hoff : L.off + st * L.sz + len * (ty e).sz ≤ arr.size := by
        have : (st + len) * (ty e).sz ≤ L.cap * (ty e).sz := Nat.mul_le_mul_right _ (by omega)
        rw [Nat.add_mul] at this
        rw [hLs]; omega
      have hsto := run_storeCells_un (P := P) L.blk (L.off + st * L.sz) T' fr (List.replicate len z0.cells.toList).flatten 0 arr w (view_heap hb) hfz (by rw [hzl]; simpa using hoff) hzf
      simp only [Nat.add_zero] at hsto
      have hzc : (Builtin.zeroCells z0.cells len).toList = (List.replicate len z0.cells.toList).flatten := zeros_eq z0.cells (by omega) len
      have hr : (Builtin.clear_ c.argTypes o.type #[.slice A len cap]).run P w = .ok (.tuple #[]) (w.setRow L.blk (arr.toList.take (L.off + st * L.sz) ++ (List.replicate len z0.cells.toList).flatten ++ arr.toList.drop (L.off + st * L.sz + (List.replicate len z0.cells.toList).flatten.length)).toArray) := by
        obtain ⟨len', rfl⟩ : ∃ k, len = k + 1 := ⟨len - 1, by omega⟩
        rw [hAa]
        simp only [Builtin.clear_, hat0]
        simp only [List.getElem?_toArray, List.getElem?_cons_zero, Sem.run_bind, run_underlying hu, Result.andThen_ok, hzr, Sem.run_pure, hzc, hsto]
      obtain ⟨hst, hv⟩ := Stp.write (ρ := ρ) (C := C) (wrs := wnames (denW [(C, .vs T' (ty e).sz n (twr (rep len (mapC (ty e).z)) (st * (ty e).sz) q))])) (cs := (arr.toList.take (L.off + st * L.sz) ++ (List.replicate len z0.cells.toList).flatten ++ arr.toList.drop (L.off + st * L.sz + (List.replicate len z0.cells.toList).flatten.length)).toArray) (by simp [denW, wnames]) (view_own hb) (view_heap hb)
      have h00 := hst.sub 0 (by omega)
      have hput := lput_dl (off := st * (ty e).sz) (m := n * (ty e).sz) (xs := rep len (mapC (ty e).z)) (d := q) (by
        rw [rep_length, mapC_length, ty_z hT hoth, ← Nat.add_mul]; exact Nat.mul_le_mul_right _ h5)
      obtain ⟨hp1, hp2⟩ := lput_is hput hrep hus
      refine ⟨undef, _, ρ, own, .inl (hex _ hr), hst, ⟨#[], rfl, rfl⟩, fun y hy => ?_⟩
      simp only [denW, List.map_cons, List.map_nil, List.mem_singleton] at hy
      subst hy
      have hsize : (arr.toList.take (L.off + st * L.sz) ++ (List.replicate len z0.cells.toList).flatten ++ arr.toList.drop (L.off + st * L.sz + (List.replicate len z0.cells.toList).flatten.length)).toArray.size = arr.size := by
        simp only [List.size_toArray, List.length_append, List.length_take, List.length_drop, Array.length_toList, hzl]
        omega
      refine ⟨L, hL, hLs, by rw [dl_length]; exact hlen, hcm, fun h => by omega, fun _ => ⟨_, fr, hv, by rw [hsize]; exact hfit, by rw [hsize]; exact hfz, _, isL_mono (Env.le_refl _) h00 hp1, fun k u hk => ?_⟩⟩
      rw [hzl] at hk ⊢
      rw [List.getElem?_toArray]
      have hkl := (List.getElem?_eq_some_iff.1 hk).1
      simp only [List.length_append, List.length_take, List.length_drop, hzl] at hkl
      by_cases k1 : k < st * (ty e).sz
      · rw [List.append_assoc, List.getElem?_append_left (by rw [List.length_take]; omega), List.getElem?_take, if_pos k1] at hk
        obtain ⟨g1, g2⟩ := hus2 k u hk
        refine ⟨?_, g2⟩
        rw [List.append_assoc, List.getElem?_append_left (by rw [List.length_take, Array.length_toList, hLs]; omega), List.getElem?_take, if_pos (by rw [hLs]; omega), Array.getElem?_toList]
        exact g1
      · by_cases k2 : k < st * (ty e).sz + len * (ty e).sz
        · rw [List.append_assoc, List.getElem?_append_right (by rw [List.length_take]; omega), List.length_take, Nat.min_eq_left (by omega), List.getElem?_append_left (by rw [hzl]; omega)] at hk
          refine ⟨?_, hzf u (List.mem_of_getElem? hk)⟩
          rw [List.append_assoc, List.getElem?_append_right (by rw [List.length_take, Array.length_toList, hLs]; omega), List.length_take, Array.length_toList, Nat.min_eq_left (by rw [hLs]; omega), List.getElem?_append_left (by rw [hzl, hLs]; omega), hLs, show L.off + k - (L.off + st * (ty e).sz) = k - st * (ty e).sz by omega]
          exact hk
        · rw [List.getElem?_append_right (by simp only [List.length_append, List.length_take, hzl]; omega), List.getElem?_drop] at hk
          simp only [List.length_append, List.length_take, hzl, Nat.min_eq_left (show st * (ty e).sz ≤ us.length by omega)] at hk
          rw [show st * (ty e).sz + len * (ty e).sz + (k - (st * (ty e).sz + len * (ty e).sz)) = k by omega] at hk
          obtain ⟨g1, g2⟩ := hus2 k u hk
          refine ⟨?_, g2⟩
          rw [List.getElem?_append_right (by simp only [List.length_append, List.length_take, Array.length_toList, hzl, hLs]; omega), List.getElem?_drop]
          simp only [List.length_append, List.length_take, Array.length_toList, hzl, hLs, Nat.min_eq_left (show L.off + st * (ty e).sz ≤ arr.size by omega)]
          rw [show L.off + st * (ty e).sz + len * (ty e).sz + (L.off + k - (L.off + st * (ty e).sz + len * (ty e).sz)) = L.off + k by omega, Array.getElem?_toList]
          exact g1
  · cases h1
  · cases h1
end
end Go.Proofs.Ytladpdndjcgebaa.Kx
