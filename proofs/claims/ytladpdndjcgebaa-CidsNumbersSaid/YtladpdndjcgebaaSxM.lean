/- The operations of the symbolic machine are sound (8): stores, append, copy, make, conversions. -/
import Derived.Test.YtladpdndjcgebaaSxL
namespace Go.Proofs.Ytladpdndjcgebaa.Sx
set_option linter.unusedVariables false
open Go

section
variable {P : Program} {ty : Ty} {o : Oper} {tm : List SV} {H : List Ch} {p : Prop} {s : SV} {rd : List Nat} {wr : List (Nat × Ch)}

theorem run_storeCells_un (g o : Nat) (t : TypeId) (fr : Nat × Nat) : ∀ (vs : List Value) (i : Nat) (cur : Array Value) (w : World), w.heap[g]? = some (.cells cur t fr) → Unfrozen fr cur.size → o + i + vs.length ≤ cur.size → (∀ v ∈ vs, v.oneCell' = true) →
    (storeCells ⟨g, o, none⟩ vs i).run P w = .ok () (w.setRow g (cur.toList.take (o + i) ++ vs ++ cur.toList.drop (o + i + vs.length)).toArray)
  | [], i, cur, w, hg, _, _, _ => by
    simp only [storeCells, List.append_nil, List.length_nil, Nat.add_zero, List.take_append_drop, Array.toArray_toList]
    rw [setRow_self w g cur t fr hg]
    rfl
  | v :: rest, i, cur, w, hg, hf, hl, h1 => by
    have hi : o + i < cur.size := by simp at hl; omega
    have hcell : w.cell? ⟨g, o + i, none⟩ = some cur[o + i] := by simp [World.cell?, hg, hi]
    have hfro : w.frozen? ⟨g, o + i, none⟩ = false := by
      have := hf (o + i) hi
      simpa [World.frozen?, hg] using this
    have hst : (store ((⟨g, o, none⟩ : Addr).add i) v).run P w = .ok () (w.setRow g (cur.setIfInBounds (o + i) v)) := by
      rw [addr_add, run_store P w _ v _ (h1 v (by simp)), hcell]
      simp [hfro, setCell_eq_setRow w g (o + i) cur t fr v hg]
    have ih := run_storeCells_un g o t fr rest (i + 1) (cur.setIfInBounds (o + i) v) (w.setRow g (cur.setIfInBounds (o + i) v)) (setRow_heap w g cur _ t _ hg) (by simpa using hf) (by simp at hl ⊢; omega) (fun x hx => h1 x (by simp [hx]))
    simp only [storeCells, Sem.run_bind, hst, Result.andThen_ok, ih, setRow_setRow]
    congr 3
    have e := list_seg_step cur.toList (o + i) v rest (by simp at hl ⊢; omega)
    simpa [Array.toList_setIfInBounds, Nat.add_assoc] using e

theorem setRow_size (w : World) (g : Nat) (cs : Array Value) : (w.setRow g cs).heap.size = w.heap.size := by simp [World.setRow]

/-- A write into a block that a chunk owns. -/
theorem Stp.write {ρ : Env} {own : Nat → Nat} {w : World} {C g : Nat} {wrs : List Nat} {cur cs : Array Value} {t : TypeId} {fr : Nat × Nat} (hC : C ∈ wrs) (ho : own g = C + 3) (hg : w.heap[g]? = some (.cells cur t fr)) :
    Stp [] wrs ρ own w ρ own (w.setRow g cs) ∧ view own (C + 3) (w.setRow g cs) g = some (.cells cs t fr) := by
  refine ⟨Stp.of (fun _ _ => rfl) (fun b ob hb hn => ⟨rfl, ?_⟩) (by rw [setRow_size]; exact Nat.le_refl _) rfl rfl rfl, ?_⟩
  · have hne : b ≠ g := by rintro rfl; exact hn C hC ho
    rw [setRow_other w g b cs hne]
    exact hb
  · unfold view
    rw [if_pos ho, setRow_heap w g cur cs t fr hg]

theorem upd_at {f : Nat → Nat → PV} {k j : Nat} {l : List PV} {n : Nat} (hn : l.length = n) (i j' : Nat) : upd f k j l i j' = if i = k ∧ j ≤ j' ∧ j' < j + n then pget l (j' - j) else f i j' := by simp [upd, hn]

theorem sound_store {T : Nat} {x y : Operand} (hT : TyOK P ty) (ho : o.op = .store T x y) (h : opStore (ty T) H (ev tm x) (ev tm y) = .ok p s rd wr) (hp : p) : OpOK P o tm H s rd wr := by
  have hopx : x ∈ o.op.operands := by simp [ho, Op.operands]
  have hopy : y ∈ o.op.operands := by simp [ho, Op.operands]
  unfold opStore at h
  split at h
  · cases h
  rename_i hoth
  have ht := hT T hoth
  split at h
  case isFalse => cases h
  rename_i hlf
  have hrun : ∀ (a : Act) (w : World) (g off : Nat) (cur : Array Value) (t : TypeId) (fr : Nat × Nat) (us : List Value), a.eval x = .pointer (some ⟨g, off, none⟩) → (a.eval y).cells.toList = us → us.length = (ty T).sz → (∀ u ∈ us, u.oneCell' = true) →
      w.heap[g]? = some (.cells cur t fr) → Unfrozen fr cur.size → off + us.length ≤ cur.size → (execOp a.eval o).run P w = .ok .skip (w.setRow g (cur.toList.take off ++ us ++ cur.toList.drop (off + us.length)).toArray) := by
    intro a w g off cur t fr us hx hy hl h1 hg hf hfit
    have hst := run_storeCells_un (P := P) g off t fr us 0 cur w hg hf (by simpa using hfit) h1
    simp only [Nat.add_zero] at hst
    have hsz : (a.eval y).cells.size = (ty T).sz := by rw [← hl, ← hy]; simp
    simp [execOp, ho, Instr.storeAt, hx, Instr.sureAddr, storeVar, ht.size_run, hsz, hy, hst]
  split at h
  · rename_i C off hx
    split at h
    · rename_i T' l hl
      split at h
      · rename_i r hr
        cases h
        refine OpOK.step fun ρ own w a hop hs hn => ?_
        rw [news_one (by rw [hl]; simp)]
        have h1 := hop x hopx; have h2 := hop y hopy
        rw [hx] at h1
        obtain ⟨L, hL, hev⟩ := h1
        obtain ⟨hcs, hone⟩ := cells_is hlf.2 h2
        have hsat := hs C (.inr (by simp [wnames]))
        rw [hl] at hsat
        obtain ⟨L', arr, hL', hoff, hcap, hb, his⟩ := hsat
        obtain rfl : L = L' := by rw [hL] at hL'; simpa using hL'
        obtain ⟨h3, h4⟩ := lput_is hr hcs his
        have hlen : (a.eval y).cells.toList.length = (ty T).sz := by rw [isL_length hcs, ← llen_eq]; exact hlf.1
        rw [hoff, Nat.zero_add] at hev
        have hr' := hrun a w L.blk off arr T' (0, 0) (a.eval y).cells.toList hev rfl hlen hone (view_heap hb) (unfrozen0 _) (by simpa using h4)
        obtain ⟨hst, hv⟩ := Stp.write (ρ := ρ) (C := C) (wrs := wnames [(C, Ch.cells T' r)]) (cs := (arr.toList.take off ++ (a.eval y).cells.toList ++ arr.toList.drop (off + (a.eval y).cells.toList.length)).toArray) (by simp [wnames]) (view_own hb) (view_heap hb)
        have h0 := hst.sub 0 (by omega)
        refine ⟨undef, _, ρ, own, .inr ⟨hr', rfl⟩, hst, ⟨#[], rfl, rfl⟩, fun z hz => ?_⟩
        simp only [List.mem_singleton] at hz
        subst hz
        have hrl : r.length = l.length := by
          have e1 := isL_length h3
          have e2 := isL_length his
          simp at e1 e2 h4
          omega
        exact ⟨L, _, hL, hoff, by rw [hrl]; exact hcap, hv, SV.monoL (Env.le_refl ρ) h0 _ _ (by simpa using h3)⟩
      · cases h
    · cases h
  · rename_i C k j hx
    split at h
    · rename_i T' sz n f hl
      split at h
      · rename_i ps hps
        cases h
        obtain ⟨hp1, hp2⟩ := hp
        refine OpOK.step fun ρ own w a hop hs hn => ?_
        rw [news_one (by rw [hl]; simp)]
        have h1 := hop x hopx; have h2 := hop y hopy
        rw [hx] at h1
        obtain ⟨L, hL, hev⟩ := h1
        obtain ⟨hcs, hone⟩ := cells_is hlf.2 h2
        have hsat := hs C (.inr (by simp [wnames]))
        rw [hl] at hsat
        obtain ⟨L', hL', hLs, hn', hcap, hrest⟩ := hsat
        obtain rfl : L = L' := by rw [hL] at hL'; simpa using hL'
        obtain ⟨arr, fr, hb, hfit, hfz, hcells⟩ := hrest (by omega)
        have hlen : (a.eval y).cells.toList.length = (ty T).sz := by rw [isL_length hcs, ← llen_eq]; exact hlf.1
        have hpl : ps.length = (ty T).sz := by rw [← listIs_length (consts_is hps hcs)]; exact hlen
        rw [hLs] at hev
        have hkc : k * sz + sz ≤ L.cap * sz := by
          have := Nat.mul_le_mul_right sz (show k + 1 ≤ L.cap by omega)
          rwa [Nat.add_mul, Nat.one_mul] at this
        have hfit' : L.off + (k * sz + j) + (a.eval y).cells.toList.length ≤ arr.size := by rw [hlen]; omega
        have hr' := hrun a w L.blk (L.off + (k * sz + j)) arr T' fr (a.eval y).cells.toList hev rfl hlen hone (view_heap hb) hfz hfit'
        obtain ⟨hst, hv⟩ := Stp.write (ρ := ρ) (C := C) (wrs := wnames [(C, Ch.vec T' sz n (upd f k j ps))]) (cs := (arr.toList.take (L.off + (k * sz + j)) ++ (a.eval y).cells.toList ++ arr.toList.drop (L.off + (k * sz + j) + (a.eval y).cells.toList.length)).toArray) (by simp [wnames]) (view_own hb) (view_heap hb)
        have h0 := hst.sub 0 (by omega)
        refine ⟨undef, _, ρ, own, .inr ⟨hr', rfl⟩, hst, ⟨#[], rfl, rfl⟩, fun z hz => ?_⟩
        simp only [List.mem_singleton] at hz
        subst hz
        have hsize : (arr.toList.take (L.off + (k * sz + j)) ++ (a.eval y).cells.toList ++ arr.toList.drop (L.off + (k * sz + j) + (a.eval y).cells.toList.length)).toArray.size = arr.size := by simp at hfit' ⊢; omega
        refine vec_new hL hLs hn' hcap hv (by rw [hsize]; exact hfit) (by rw [hsize]; exact hfz) (fun i hi j' hj' => ?_)
        have hmin : min (L.off + (k * sz + j)) arr.toList.length = L.off + (k * sz + j) := by rw [Array.length_toList]; omega
        rw [upd_at hpl]
        by_cases hin : i = k ∧ j ≤ j' ∧ j' < j + (ty T).sz
        · rw [if_pos hin]
          obtain ⟨rfl, hj1, hj2⟩ := hin
          have hjl : j' - j < (a.eval y).cells.toList.length := by omega
          refine ⟨(a.eval y).cells.toList[j' - j], ?_, PV.mono h0 _ _ (pget_is (consts_is hps hcs) (List.getElem?_eq_getElem hjl))⟩
          rw [List.getElem?_toArray, List.append_assoc, List.getElem?_append_right (by rw [List.length_take]; omega), List.getElem?_append_left (by rw [List.length_take, hmin]; omega), List.length_take, hmin]
          rw [show L.off + (i * sz + j') - (L.off + (i * sz + j)) = j' - j by omega]
          exact List.getElem?_eq_getElem hjl
        · rw [if_neg hin]
          obtain ⟨u, hu, hf⟩ := hcells i hi j' hj'
          refine ⟨u, ?_, PV.mono h0 _ _ hf⟩
          rw [List.getElem?_toArray]
          have hpos : i * sz + j' < k * sz + j ∨ k * sz + j + (ty T).sz ≤ i * sz + j' := by
            rcases Nat.lt_trichotomy i k with hlt | heq | hgt
            · left
              have := Nat.mul_le_mul_right sz (show i + 1 ≤ k by omega)
              rw [Nat.add_mul, Nat.one_mul] at this
              omega
            · subst heq
              omega
            · right
              have := Nat.mul_le_mul_right sz (show k + 1 ≤ i by omega)
              rw [Nat.add_mul, Nat.one_mul] at this
              omega
          rcases hpos with hpos | hpos
          · rw [List.append_assoc, List.getElem?_append_left (by rw [List.length_take, hmin]; omega), List.getElem?_take, if_pos (by omega), Array.getElem?_toList]
            exact hu
          · rw [List.getElem?_append_right (by rw [List.length_append, List.length_take, hmin]; omega), List.getElem?_drop, List.length_append, List.length_take, hmin, Array.getElem?_toList, ← hu]
            congr 1
            omega
      · cases h
    · cases h
  · cases h
end
end Go.Proofs.Ytladpdndjcgebaa.Sx
