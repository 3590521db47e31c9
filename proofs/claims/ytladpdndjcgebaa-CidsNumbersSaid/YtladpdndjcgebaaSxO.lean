/- The operations of the symbolic machine are sound (10): copy, make, min and max, conversions. -/
import Derived.Test.YtladpdndjcgebaaSxN
namespace Go.Proofs.Ytladpdndjcgebaa.Sx
set_option linter.unusedVariables false
open Go

section
variable {P : Program} {ty : Ty} {o : Oper} {tm : List SV} {H : List Ch} {p : Prop} {s : SV} {rd : List Nat} {wr : List (Nat × Ch)}

theorem tabE_is {ρ : Env} {hP : HL} {sz : Nat} {g : Nat → Nat → PV} : ∀ (n i : Nat) (us : List Value), us.length = n * sz → (∀ k, k < n → ∀ j, j < sz → ∃ u, us[k * sz + j]? = some u ∧ (g (i + k) j).is hP u) → SV.isL ρ hP (tabE sz g i n) us
  | 0, i, us, hl, _ => List.eq_nil_of_length_eq_zero (by simpa using hl)
  | n + 1, i, us, hl, h => by
    rw [Nat.add_mul, Nat.one_mul] at hl
    rw [← List.take_append_drop sz us]
    refine isL_append (tab_is (g i) sz 0 _ (by simp; omega) (fun j u hu => ?_)) (tabE_is n (i + 1) _ (by simp; omega) (fun k hk j hj => ?_))
    · rw [List.getElem?_take] at hu
      split at hu
      · rename_i hj
        obtain ⟨u', hu', hg⟩ := h 0 (by omega) j hj
        simp only [Nat.zero_mul, Nat.zero_add, Nat.add_zero] at hu' hg ⊢
        rw [hu] at hu'
        simp only [Option.some.injEq] at hu'
        subst hu'
        exact hg
      · cases hu
    · obtain ⟨u', hu', hg⟩ := h (k + 1) (by omega) j hj
      refine ⟨u', ?_, by rwa [show i + 1 + k = i + (k + 1) by omega]⟩
      rw [List.getElem?_drop, ← hu', Nat.add_mul, Nat.one_mul]
      congr 1
      omega

theorem run_copy_at {T S e : Nat} {ty' : Nat} (hu : P.underlying T = some (.slice e)) {sz : Nat} (hse : ∀ w, (sizeOf e).run P w = .ok sz w) {hP : HL} {w : World} {n : Nat} {f : Nat → Nat → PV} {v : Value} {news : List Value}
    (hv : SrcIs P hP w sz n f v news) {b off dLen dCap : Nat} {cur : Array Value} {t : TypeId} {fr : Nat × Nat} (hg : w.heap[b]? = some (.cells cur t fr)) (hf : Unfrozen fr cur.size) (hfit : off + min n dLen * sz ≤ cur.size) :
    (Builtin.copy_ #[T, S] ty' #[.slice (some ⟨b, off, none⟩) dLen dCap, v]).run P w =
      .ok (goInt (min n dLen : Nat)) (w.setRow b (cur.toList.take off ++ news.take (min n dLen * sz) ++ cur.toList.drop (off + (news.take (min n dLen * sz)).length)).toArray) := by
  have h1 := hv.first (min n dLen) (Nat.min_le_left _ _) w rfl
  have hle : min n dLen * sz ≤ n * sz := Nat.mul_le_mul_right _ (Nat.min_le_left _ _)
  have hst := run_storeCells_un (P := P) b off t fr (news.take (min n dLen * sz)) 0 cur w hg hf (by rw [List.length_take, hv.len]; omega) (fun u hu => hv.one u (List.mem_of_mem_take hu))
  simp only [Nat.add_zero] at hst
  have hl := hv.lenRun w
  simp only [Builtin.copy_, List.getElem?_toArray, List.getElem?_cons_zero, List.getElem?_cons_succ, Sem.run_bind, run_underlying hu, Result.andThen_ok, hl, hse]
  rw [show Nat.min n dLen = min n dLen from rfl, h1]
  simp [hst]
theorem run_copy_no {T S e : Nat} {ty' : Nat} (hu : P.underlying T = some (.slice e)) {sz : Nat} (hse : ∀ w, (sizeOf e).run P w = .ok sz w) {hP : HL} {w : World} {n : Nat} {f : Nat → Nat → PV} {v : Value} {news : List Value}
    (hv : SrcIs P hP w sz n f v news) {A : Option Addr} {dLen dCap : Nat} (h0 : min n dLen = 0) : (Builtin.copy_ #[T, S] ty' #[.slice A dLen dCap, v]).run P w = .ok (goInt 0) w := by
  have h1 := hv.first 0 (Nat.zero_le _) w rfl
  have hl := hv.lenRun w
  simp only [Builtin.copy_, List.getElem?_toArray, List.getElem?_cons_zero, List.getElem?_cons_succ, Sem.run_bind, run_underlying hu, Result.andThen_ok, hl, hse]
  rw [show Nat.min n dLen = 0 from h0, h1]
  cases A <;> simp [storeCells]

theorem sound_copy {T S : Nat} {d x : Operand} {c : Call} {ats : List Nat} (hT : TyOK P ty) (ho : o.op = .call c) (hc : c.callee = .builtin .copy) (ha : c.args.toList = [d, x]) (hat : c.argTypes.toList = T :: ats)
    (h : opCopy ty H T (ev tm d) (ev tm x) = .ok p s rd wr) (hp : p) : OpOK P o tm H s rd wr := by
  have hargs : c.args = #[d, x] := by rw [← Array.toArray_toList (xs := c.args), ha]
  have hopd : d ∈ o.op.operands := by simp [ho, Op.operands, Call.operands, hc, hargs]
  have hopx : x ∈ o.op.operands := by simp [ho, Op.operands, Call.operands, hc, hargs]
  have hat0 : c.argTypes[0]? = some T := by rw [← Array.getElem?_toList, hat]; rfl
  have hcp : ∀ (args : Array Value) (w : World), (Builtin.copy_ c.argTypes o.type args).run P w = (Builtin.copy_ #[T, 0] o.type args).run P w := by
    intro args w
    simp [Builtin.copy_, hat0]
  have hex : ∀ (a : Act) (w w' : World) (v : Value), (Builtin.copy_ #[T, 0] o.type #[a.eval d, a.eval x]).run P w = .ok v w' → (execOp a.eval o).run P w = .ok (.value v) w' := by
    intro a w w' v hr
    simp only [execOp, ho, resolve, hc, Sem.run_bind, Sem.run_pure, Result.andThen_ok, invoke, builtin, hargs]
    simp only [List.map_toArray, List.map_cons, List.map_nil, hcp, hr, Result.andThen_ok]
  unfold opCopy at h
  split at h
  case h_2 => cases h
  rename_i e hk
  have hu : P.underlying T = some (.slice e) := und_of hT hk rfl
  split at h
  · cases h
  rename_i hne
  have hoth : (ty e).k.isOther = false := by cases h : (ty e).k.isOther <;> simp_all
  have hpos : 0 < (ty e).sz := by have : (ty e).sz ≠ 0 := fun hx => hne (.inl hx); omega
  have hse := fun w => (hT e hoth).size_run (ty := ty) w
  split at h
  case h_2 => cases h
  rename_i m g rdx vc hsrc
  split at h
  · rename_i C st len lim hdv
    split at h
    case h_2 => cases h
    rename_i T' sz n f hl
    split at h
    case isFalse => cases h
    rename_i hsz
    cases h
    obtain ⟨hvc, hle⟩ := hp
    refine OpOK.step fun ρ own w a hop hs hn => ?_
    rw [news_one (by rw [hl]; simp)]
    have h1 := hop d hopd
    rw [hdv] at h1
    obtain ⟨L, A, cap, hL, hev, hlc, hA, hcap, _⟩ := h1
    obtain ⟨news, hnews⟩ := src_is (P := P) hsrc hvc hpos (hop x hopx) (fun c hc => hs c (.inl hc))
    have hsatC := hs C (.inr (by simp [wnames]))
    rw [hl] at hsatC
    have hsatC' := hsatC
    obtain ⟨L', hL', hLs, hn', hcapm, hrest⟩ := hsatC
    obtain rfl : L = L' := by rw [hL] at hL'; simpa using hL'
    rcases Nat.eq_zero_or_pos (min m len) with h0 | h0
    · have hr := run_copy_no (ty' := o.type) (S := 0) hu hse hnews (A := A) (dLen := len) (dCap := cap) h0
      rw [← hev] at hr
      refine ⟨_, w, ρ, own, .inl (hex a w w _ hr), ⟨fun _ _ => rfl, fun _ _ => HL.le_refl _, Nat.le_refl _, rfl, rfl, rfl⟩, by rw [h0]; exact rfl, fun y hy => ?_⟩
      simp only [List.mem_singleton] at hy
      subst hy
      have e0 : over f st (min m len) g = f := by funext i j; simp only [over, h0]; rw [if_neg (by omega)]
      simp only [e0]
      exact hsatC'
    · obtain ⟨arr, fr, hb, hfit, hfz, hcells⟩ := hrest (by omega)
      have hA' := hA (by omega)
      subst hA'
      have hm2 : (st + len) * sz ≤ L.cap * sz := Nat.mul_le_mul_right _ (by omega)
      have hm3 : min m len * sz ≤ len * sz := Nat.mul_le_mul_right _ (Nat.min_le_right _ _)
      have hm4 : min m len * sz ≤ m * sz := Nat.mul_le_mul_right _ (Nat.min_le_left _ _)
      rw [Nat.add_mul] at hm2
      rw [← hsz] at hse hnews
      have hnl : (news.take (min m len * sz)).length = min m len * sz := by rw [List.length_take, hnews.len]; omega
      have hr := run_copy_at (ty' := o.type) (S := 0) (dLen := len) (dCap := cap) hu hse hnews (off := L.off + st * L.sz) (view_heap hb) hfz (by rw [hLs]; omega)
      rw [← hev] at hr
      obtain ⟨hst, hv⟩ := Stp.write (ρ := ρ) (C := C) (wrs := wnames [(C, Ch.vec T' sz n (over f st (min m len) g))]) (cs := (arr.toList.take (L.off + st * L.sz) ++ news.take (min m len * sz) ++ arr.toList.drop (L.off + st * L.sz + (news.take (min m len * sz)).length)).toArray) (by simp [wnames]) (view_own hb) (view_heap hb)
      have h00 := hst.sub 0 (by omega)
      refine ⟨_, _, ρ, own, .inl (hex a w _ _ hr), hst, rfl, fun y hy => ?_⟩
      simp only [List.mem_singleton] at hy
      subst hy
      have hsize : (arr.toList.take (L.off + st * L.sz) ++ news.take (min m len * sz) ++ arr.toList.drop (L.off + st * L.sz + (news.take (min m len * sz)).length)).toArray.size = arr.size := by
        simp only [List.size_toArray, List.length_append, List.length_take, List.length_drop, hnews.len, Array.length_toList]
        rw [hLs]
        omega
      refine vec_new hL hLs hn' hcapm hv (by rw [hsize]; exact hfit) (by rw [hsize]; exact hfz) (fun i hi j hj => ?_)
      have hTL : (arr.toList.take (L.off + st * L.sz)).length = L.off + st * L.sz := by rw [List.length_take, Array.length_toList, hLs]; omega
      rw [List.getElem?_toArray]
      unfold over
      by_cases hin : st ≤ i ∧ i < st + min m len
      · rw [if_pos hin]
        obtain ⟨u, hu', hf⟩ := hnews.el (i - st) (by omega) j hj
        refine ⟨u, ?_, PV.mono h00 _ _ hf⟩
        have hk1 : st * sz ≤ i * sz := Nat.mul_le_mul_right _ hin.1
        have hk2 : (i - st) * sz + j < min m len * sz := by
          have := Nat.mul_le_mul_right sz (show (i - st) + 1 ≤ min m len by omega)
          rw [Nat.add_mul, Nat.one_mul] at this
          omega
        rw [List.append_assoc, List.getElem?_append_right (by rw [hTL, hLs]; omega), hTL, hLs, List.getElem?_append_left (by rw [hnl]; rw [Nat.sub_mul] at hk2; omega), List.getElem?_take, if_pos (by rw [Nat.sub_mul] at hk2; omega), ← hu', Nat.sub_mul]
        congr 1
        omega
      · rw [if_neg hin]
        obtain ⟨u, hu', hf⟩ := hcells i hi j hj
        refine ⟨u, ?_, PV.mono h00 _ _ hf⟩
        have hpos' : i * sz + j < st * sz ∨ st * sz + min m len * sz ≤ i * sz + j := by
          rcases Nat.lt_or_ge i st with hlt | hge
          · left
            have := Nat.mul_le_mul_right sz (show i + 1 ≤ st by omega)
            rw [Nat.add_mul, Nat.one_mul] at this
            omega
          · right
            have := Nat.mul_le_mul_right sz (show st + min m len ≤ i by omega)
            rw [Nat.add_mul] at this
            omega
        rcases hpos' with hpos' | hpos'
        · rw [List.append_assoc, List.getElem?_append_left (by rw [hTL, hLs]; omega), List.getElem?_take, if_pos (by rw [hLs]; omega), Array.getElem?_toList]
          exact hu'
        · rw [List.getElem?_append_right (by rw [List.length_append, hTL, hnl, hLs]; omega), List.getElem?_drop, List.length_append, hTL, hnl, Array.getElem?_toList, ← hu', hLs]
          congr 1
          omega
  · rename_i C off sz len cap hdv
    split at h
    case h_2 => cases h
    rename_i T' l hl
    split at h
    case isFalse => cases h
    rename_i hsz
    split at h
    case h_2 => cases h
    rename_i r hr'
    cases h
    have hvc := hp
    refine OpOK.step fun ρ own w a hop hs hn => ?_
    rw [news_one (by rw [hl]; simp)]
    have h1 := hop d hopd
    rw [hdv] at h1
    obtain ⟨L, A, hL, hev, hlc, hA, _⟩ := h1
    obtain ⟨news, hnews⟩ := src_is (P := P) hsrc hvc hpos (hop x hopx) (fun c hc => hs c (.inl hc))
    have hsatC := hs C (.inr (by simp [wnames]))
    rw [hl] at hsatC
    obtain ⟨L', arr, hL', hoff, hcapl, hb, his⟩ := hsatC
    obtain rfl : L = L' := by rw [hL] at hL'; simpa using hL'
    rw [← hsz] at hse hnews
    have hm4 : min m len * sz ≤ m * sz := Nat.mul_le_mul_right _ (Nat.min_le_left _ _)
    have htab : SV.isL ρ (view own 0 w) (tabE sz g 0 (min m len)) (news.take (min m len * sz)) := by
      refine tabE_is _ _ _ (by rw [List.length_take, hnews.len]; omega) (fun k hk j hj => ?_)
      obtain ⟨u, hu', hg⟩ := hnews.el k (by omega) j hj
      have hk2 : k * sz + j < min m len * sz := by
        have := Nat.mul_le_mul_right sz (show k + 1 ≤ min m len by omega)
        rw [Nat.add_mul, Nat.one_mul] at this
        omega
      exact ⟨u, by rw [List.getElem?_take, if_pos hk2]; exact hu', by rwa [Nat.zero_add]⟩
    obtain ⟨h3, h4⟩ := lput_is hr' htab his
    have hnl : (news.take (min m len * sz)).length = min m len * sz := by rw [List.length_take, hnews.len]; omega
    have hrl : r.length = l.length := by
      have e1 := isL_length h3
      have e2 := isL_length his
      simp only [List.length_append, List.length_take, List.length_drop, hnews.len] at e1
      rw [hnl] at h4
      simp at e1 e2 h4
      omega
    rcases Nat.eq_zero_or_pos (min m len) with h0 | h0
    · have hr := run_copy_no (ty' := o.type) (S := 0) hu hse hnews (A := A) (dLen := len) (dCap := cap) h0
      rw [← hev] at hr
      refine ⟨_, w, ρ, own, .inl (hex a w w _ hr), ⟨fun _ _ => rfl, fun _ _ => HL.le_refl _, Nat.le_refl _, rfl, rfl, rfl⟩, by rw [h0]; exact rfl, fun y hy => ?_⟩
      simp only [List.mem_singleton] at hy
      subst hy
      refine ⟨L, arr, hL, hoff, by rw [hrl]; exact hcapl, hb, ?_⟩
      simp only [h0, Nat.zero_mul, List.take_zero, List.append_nil, List.length_nil, Nat.add_zero, List.take_append_drop] at h3
      exact h3
    · have hA' := hA (by omega)
      subst hA'
      rw [hoff, Nat.zero_add] at hev
      have hr := run_copy_at (ty' := o.type) (S := 0) (dLen := len) (dCap := cap) hu hse hnews (off := off) (view_heap hb) (unfrozen0 _) (by rw [hnl] at h4; simpa using h4)
      rw [← hev] at hr
      obtain ⟨hst, hv⟩ := Stp.write (ρ := ρ) (C := C) (wrs := wnames [(C, Ch.cells T' r)]) (cs := (arr.toList.take off ++ news.take (min m len * sz) ++ arr.toList.drop (off + (news.take (min m len * sz)).length)).toArray) (by simp [wnames]) (view_own hb) (view_heap hb)
      have h00 := hst.sub 0 (by omega)
      refine ⟨_, _, ρ, own, .inl (hex a w _ _ hr), hst, rfl, fun y hy => ?_⟩
      simp only [List.mem_singleton] at hy
      subst hy
      exact ⟨L, _, hL, hoff, by rw [hrl]; exact hcapl, hv, SV.monoL (Env.le_refl ρ) h00 _ _ (by simpa using h3)⟩
  · cases h
end
end Go.Proofs.Ytladpdndjcgebaa.Sx
