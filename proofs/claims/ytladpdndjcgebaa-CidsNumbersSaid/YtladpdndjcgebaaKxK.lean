/- The machine's operations are the symbolic machine's (7): slices, copies, what is appended. -/
import Derived.Test.YtladpdndjcgebaaKxJ
namespace Go.Proofs.Ytladpdndjcgebaa.Kx
set_option linter.unusedVariables false
open Go Go.Proofs.Ytladpdndjcgebaa.Sx

/-- A chunk with its row's cells as what is best known of them. -/
noncomputable def bst (us : List Value) : Ch → Ch
  | .vs T z l => if z = 0 then .vs T z l else .vec T z (l.length / z) (bF l us z)
  | c => c
noncomputable def bestH (U : Nat → List Value) (H : CH) : List Ch := (List.range H.n).map fun c => bst (U c) (den (mget c H.t))
theorem hget_best (U : Nat → List Value) (H : CH) (c : Nat) : hget (bestH U H) c = bst (U c) (hget (hl H) c) := by
  rw [hget_eq, hget_eq, bestH, hl, List.getD_eq_getElem?_getD, List.getD_eq_getElem?_getD, List.getElem?_map, List.getElem?_map, rg]
  split <;> rfl
theorem hlen_best (U : Nat → List Value) (H : CH) : hlen (bestH U H) = hlen (hl H) := by rw [hlen_eq, hlen_eq]; simp [bestH, hl]
theorem best_vs {U : Nat → List Value} {H : CH} {C T z n : Nat} {d : D} (h : hg H C = .vs T z n d) (hz : 0 < z) : hget (bestH U H) C = .vec T z n (bF (dl (n * z) d) (U C) z) := by
  rw [hget_best, den_vs h]
  simp only [bst]
  rw [if_neg (by omega), dl_length, Nat.mul_div_cancel _ hz]
theorem best_cells {U : Nat → List Value} {H : CH} {C T n : Nat} {d : D} (h : hg H C = .cells T n d) : hget (bestH U H) C = .cells T (dl n d) := by
  rw [hget_best, den_cells h]; rfl

section
variable {P : Program} {ty : Ty} {o : Oper} {nt : Nat}

/-- What is known of the rows' cells in a world. -/
def RowsIs (S : Nat → Prop) (H : CH) (ρ : Env) (hP : HL) (U : Nat → List Value) : Prop := ∀ c T z n d, S c → hg H c = .vs T z n d → 0 < z → SV.isL ρ hP (dl (n * z) d) (U c)

theorem best_ex {H : CH} (S : Nat → Prop) {ρ : Env} {own : Nat → Nat} {w : World} (hsat : ∀ c, S c → (hget (hl H) c).sat ρ c (view own 0 w) (view own (c + 3) w)) :
    ∃ U, (∀ c, S c → (hget (bestH U H) c).sat ρ c (view own 0 w) (view own (c + 3) w)) ∧ RowsIs S H ρ (view own 0 w) U := by
  have hex : ∀ c, ∃ us, S c → (bst us (hget (hl H) c)).sat ρ c (view own 0 w) (view own (c + 3) w) ∧ ∀ T z n d, hg H c = .vs T z n d → 0 < z → SV.isL ρ (view own 0 w) (dl (n * z) d) us := by
    intro c
    by_cases hc : S c
    · have h1 := hsat c hc
      cases hd : hg H c with
      | vs T z n d =>
        rcases Nat.eq_zero_or_pos z with hz | hz
        · refine ⟨[], fun _ => ⟨?_, fun T' z' n' d' e hz' => ?_⟩⟩
          · rw [den_vs hd] at h1 ⊢
            simp only [bst, hz, if_true] at h1 ⊢
            exact h1
          · cases e; omega
        · rw [den_vs hd] at h1
          obtain ⟨us, h2, h3, h4⟩ := vs_best h1 (dl_length _ _) hz
          refine ⟨us, fun _ => ⟨?_, fun T' z' n' d' e hz' => ?_⟩⟩
          · rw [den_vs hd]
            simp only [bst]
            rw [if_neg (by omega), dl_length, Nat.mul_div_cancel _ hz]
            exact h4
          · cases e; exact h3
      | none => exact ⟨[], fun _ => ⟨by rw [hget_hl, hd]; trivial, fun _ _ _ _ e => by cases e⟩⟩
      | cells T n d => exact ⟨[], fun _ => ⟨by rw [hget_hl, hd] at h1 ⊢; exact h1, fun _ _ _ _ e => by cases e⟩⟩
      | map k n l st => exact ⟨[], fun _ => ⟨by rw [hget_hl, hd] at h1 ⊢; exact h1, fun _ _ _ _ e => by cases e⟩⟩
    · exact ⟨[], fun hc' => (hc hc').elim⟩
  refine ⟨fun c => (hex c).choose, fun c hc => ?_, fun c T z n d hc hd hz => ((hex c).choose_spec hc).2 T z n d hd hz⟩
  rw [hget_best]
  exact ((hex c).choose_spec hc).1
theorem at_best {t : N3} {H : CH} {s : SV} {rd : List Nat} {wr : List (Nat × CC)} (hT : TyOK P ty)
    (h : ∀ U ρ own w (a : Act), (∀ x ∈ o.op.operands, (ev (tl nt t) x).is ρ (view own 0 w) (a.eval x)) → RowsIs (fun c => c ∈ rd ∨ c ∈ wnames (denW wr)) H ρ (view own 0 w) U →
      ∃ p s' wr', opS ty o (tl nt t) (bestH U H) = .ok p s' rd wr' ∧ p ∧ wnames wr' = wnames (denW wr) ∧
        ∀ ρ' own' w' v, Env.le ρ ρ' → HL.le (view own 0 w) (view own' 0 w') → s'.is ρ' (view own' 0 w') v → (∀ x ∈ wr', x.2.sat ρ' x.1 (view own' 0 w') (view own' (x.1 + 3) w')) →
          s.is ρ' (view own' 0 w') v ∧ ∀ x ∈ denW wr, x.2.sat ρ' x.1 (view own' 0 w') (view own' (x.1 + 3) w')) : OpOK P o (tl nt t) (hl H) s rd (denW wr) := by
  refine at_world hT fun ρ own w a hop hsat hn => ?_
  obtain ⟨U, hU1, hU2⟩ := best_ex (fun c => c ∈ rd ∨ c ∈ wnames (denW wr)) hsat
  obtain ⟨p, s', wr', h1, h2, h3, h4⟩ := h U ρ own w a hop hU2
  refine ⟨tl nt t, bestH U H, p, s', rd, wr', hop, fun c hc => ?_, hlen_best U H, h3, h1, h2, h4⟩
  rw [h3] at hc
  exact hU1 c hc

theorem bndK_ret {d : Nat} {x : Option Operand} {t : N3} {k : Nat → EX} {s : SV} {H : CH} (h : bndK nt d x t k = .ret s H) : ∃ n : Nat, bound (tl nt t) d x = some (n : Int) ∧ k n = .ret s H := by
  cases x with
  | none => exact ⟨d, rfl, h⟩
  | some x =>
    have h : gvK nt x t (fun x => onI x fun _ n => ifB (cle 0 n) (k (natI n)) (.bad "bound")) = .ret s H := h
    rw [gvK_eq] at h
    obtain ⟨kk, n, hx, h1⟩ := onI_ret h
    obtain ⟨h2, h3⟩ := ifB_ret h1
    rw [cle_eq, decide_eq_true_iff] at h2
    rw [natI_eq] at h3
    refine ⟨n.toNat, ?_, h3⟩
    simp only [bound, hx, Sx.intOf]
    congr 1
    omega
theorem bndK_some {d : Nat} {x : Operand} {t : N3} {k : Nat → EX} {s : SV} {H : CH} (h : bndK nt d (some x) t k = .ret s H) : ∃ n : Nat, Sx.intOf (ev (tl nt t) x) = some (n : Int) ∧ k n = .ret s H := by
  obtain ⟨n, h1, h2⟩ := bndK_ret h
  exact ⟨n, h1, h2⟩
theorem limK_ret {l : Nat} {lim : Option Nat} {k : Option Nat → EX} : limK l lim k = k (match lim with | none => none | some m => some (m - l)) := by
  cases lim with
  | none => rfl
  | some m => exact forceN_eq _ fun m => k (some m)

theorem ok_slice {T : Nat} {x : Operand} {lo hi mx : Option Operand} (hT : TyOK P ty) (ho : o.op = .slice T x lo hi mx) : OBOK P o nt (oSlice nt ty T x lo hi mx).g := by
  intro K t H s H' hn h
  unfold oSlice at h
  split at h
  · rename_i e hk
    rw [ifB_eq] at h
    split at h
    · cases h
    rename_i hoth
    simp only [Bool.or_eq_true, isZ, Nat.beq_eq, not_or, Bool.not_eq_true] at hoth
    obtain ⟨hoth, hz0⟩ := hoth
    have rows : ∀ (C st len : Nat) (lim : Option Nat) (T' z n : Nat) (d : D) (s' : SV) (p : Prop), ev (tl nt t) x = .sl C st len lim → hg H C = .vs T' z n d → p →
        (∀ U, opSlice ty (bestH U H) T (tl nt t) x lo hi mx = .ok p s' [C] []) → K s' [C] [] = .ret s H' → ∃ v rd wr, OpOK P o (tl nt t) (hl H) v rd (denW wr) ∧ WrOK H.n wr ∧ K v rd wr = .ret s H' := by
      intro C st len lim T' z n d s' p hx hd hp hop hK
      exact ⟨s', [C], [], at_best (s := s') (rd := [C]) (wr := []) hT fun U ρ own w a _ _ => ⟨p, s', [], by simp only [opS, ho]; exact hop U, hp, rfl, fun ρ' own' w' v _ _ hv _ => ⟨hv, fun y hy => by cases hy⟩⟩, hn, hK⟩
    split at h
    · have h : gvK nt x t (fun x => bndK nt 0 lo t fun l => onL x (fun C st len lim => bndK nt len hi t fun h => slS K H (ty e).sz C st len lim l h) (fun _ _ _ _ _ => .bad "slice: of an array's slice") (bndK nt 0 hi t fun h => slN K l h 0)) = .ret s H' := h
      rw [gvK_eq] at h
      obtain ⟨l, hl1, h1⟩ := bndK_ret h
      have hl1 : bound (tl nt t) 0 lo = some (l : Int) := hl1
      rcases onL_ret h1 with ⟨C, st, len, lim, hx, h2⟩ | ⟨C, off, z, len, cap, hx, h2⟩ | ⟨hx, h2⟩
      · obtain ⟨hh, hh1, h3⟩ := bndK_ret h2
        rw [slS, hgK_eq] at h3
        obtain ⟨T', z, n, d, hd, h4⟩ := onVs_ret h3
        obtain ⟨h5, h6⟩ := ifB_ret h4
        obtain ⟨h7, h8⟩ := ifB_ret h6
        obtain ⟨h9, h10⟩ := ifB_ret h8
        rw [forceN_eq, forceN_eq, limK_ret] at h10
        obtain rfl := nbeq_eq h5
        have h7 := ble_eq h7
        have h9 := ble_eq h9
        refine rows C st len lim T' _ n d _ (0 ≤ (l : Int) ∧ (l : Int) ≤ (hh : Int) ∧ (hh : Int) ≤ (len : Int)) hx hd ⟨by omega, by omega, by omega⟩ (fun U => ?_) h10
        simp only [opSlice, hx, hk, best_vs hd (by omega : 0 < (ty e).sz), hoth, and_self, if_true, hl1, hh1, Int.toNat_natCast]
        rfl
      · cases h2
      · obtain ⟨hh, hh1, h3⟩ := bndK_ret h2
        unfold slN at h3
        obtain ⟨h4, h5⟩ := ifB_ret h3
        obtain ⟨h6, h7⟩ := ifB_ret h5
        obtain ⟨_, h8⟩ := ifB_ret h7
        obtain rfl := nbeq_eq h4
        obtain rfl := nbeq_eq h6
        refine via (p := 0 ≤ ((0 : Nat) : Int) ∧ ((0 : Nat) : Int) ≤ ((0 : Nat) : Int) ∧ ((0 : Nat) : Int) ≤ 0) (wr := []) hT ?_ (by simp) hn h8
        simp only [opS, ho, opSlice, hx, hk, hoth, Bool.false_eq_true, if_false, hl1]
        have hh1 : bound (tl nt t) 0 hi = some 0 := hh1
        rw [hh1]
        rfl
    · rename_i m
      split at h
      · cases h
      · rename_i hh0
        have h : gvK nt x t (fun x => bndK nt 0 lo t fun l => bndK nt 0 (some hh0) t fun h => bndK nt 0 (some m) t fun m => onL x (fun C st len _ => slS3 K H (ty e).sz C st len l h m) (fun _ _ _ _ _ => .bad "slice: of an array's slice") (slN K l h m)) = .ret s H' := h
        rw [gvK_eq] at h
        obtain ⟨l, hl1, h1⟩ := bndK_ret h
        have hl1 : bound (tl nt t) 0 lo = some (l : Int) := hl1
        obtain ⟨hh, hh1, h2⟩ := bndK_some h1
        obtain ⟨mm, hm1, h3⟩ := bndK_some h2
        rcases onL_ret h3 with ⟨C, st, len, lim, hx, h4⟩ | ⟨C, off, z, len, cap, hx, h4⟩ | ⟨hx, h4⟩
        · rw [slS3, hgK_eq] at h4
          obtain ⟨T', z, n, d, hd, h5⟩ := onVs_ret h4
          obtain ⟨h6, h7⟩ := ifB_ret h5
          obtain ⟨h8, h9⟩ := ifB_ret h7
          obtain ⟨h10, h11⟩ := ifB_ret h9
          obtain ⟨h12, h13⟩ := ifB_ret h11
          rw [forceN_eq, forceN_eq, forceN_eq] at h13
          obtain rfl := nbeq_eq h6
          have h8 := ble_eq h8
          have h10 := ble_eq h10
          have h12 := ble_eq h12
          refine rows C st len lim T' _ n d _ (0 ≤ (l : Int) ∧ (l : Int) ≤ (hh : Int) ∧ (hh : Int) ≤ (mm : Int) ∧ (mm : Int) ≤ (len : Int)) hx hd ⟨by omega, by omega, by omega, by omega⟩ (fun U => ?_) h13
          have hh2 : bound (tl nt t) (len : Int) (some hh0) = some (hh : Int) := hh1
          simp only [opSlice, hx, hk, best_vs hd (by omega : 0 < (ty e).sz), hoth, and_self, if_true, hl1, hh2, hm1, Int.toNat_natCast]
          rfl
        · cases h4
        · unfold slN at h4
          obtain ⟨h5, h6⟩ := ifB_ret h4
          obtain ⟨h7, h8⟩ := ifB_ret h6
          obtain ⟨h9, h10⟩ := ifB_ret h8
          obtain rfl := nbeq_eq h5
          obtain rfl := nbeq_eq h7
          obtain rfl := nbeq_eq h9
          refine via (p := 0 ≤ ((0 : Nat) : Int) ∧ ((0 : Nat) : Int) ≤ ((0 : Nat) : Int) ∧ ((0 : Nat) : Int) ≤ ((0 : Nat) : Int) ∧ ((0 : Nat) : Int) ≤ 0) (wr := []) hT ?_ (by simp) hn h10
          have hh2 : bound (tl nt t) 0 (some hh0) = some ((0 : Nat) : Int) := hh1
          simp only [opS, ho, opSlice, hx, hk, hoth, Bool.false_eq_true, if_false, hl1, hh2, hm1]
          rfl
  · rename_i N e hk
    rw [ifB_eq] at h
    split at h
    · cases h
    rename_i hoth
    split at h
    · have h : gvK nt x t (fun x => bndK nt 0 lo t fun l => bndK nt N hi t fun h => onA x (fun C off => slC K (ty e).sz C off (ty e).sz l h N N) (fun _ _ _ => .bad "slice: q")) = .ret s H' := h
      rw [gvK_eq] at h
      obtain ⟨l, hl1, h1⟩ := bndK_ret h
      have hl1 : bound (tl nt t) 0 lo = some (l : Int) := hl1
      obtain ⟨hh, hh1, h2⟩ := bndK_ret h1
      rcases onA_ret h2 with ⟨C, off, hx, h3⟩ | ⟨C, i, j, hx, h3⟩
      · unfold slC at h3
        obtain ⟨_, h4⟩ := ifB_ret h3
        obtain ⟨h5, h6⟩ := ifB_ret h4
        obtain ⟨h7, h8⟩ := ifB_ret h6
        obtain ⟨_, h9⟩ := ifB_ret h8
        rw [forceN_eq, forceN_eq, forceN_eq] at h9
        have h5 := ble_eq h5
        have h7 := ble_eq h7
        refine via (p := 0 ≤ (l : Int) ∧ (l : Int) ≤ (hh : Int) ∧ (hh : Int) ≤ (N : Int)) (wr := []) hT ?_ ⟨by omega, by omega, by omega⟩ hn h9
        simp only [opS, ho, opSlice, hx, hk, hoth, if_false, hl1, hh1, Int.toNat_natCast]
        rfl
      · cases h3
    · cases h
  · rename_i hk
    split at h
    · have h : gvK nt x t (fun x => onS x fun b => bndK nt 0 lo t fun l => bndK nt b.length hi t fun h => ifB (Nat.ble l h) (ifB (Nat.ble h b.length) (K (.c (.s ((b.drop l).take (Nat.sub h l)))) [] []) (.bad "slice: high")) (.bad "slice: low")) = .ret s H' := h
      rw [gvK_eq] at h
      obtain ⟨b, hx, h1⟩ := onS_ret h
      obtain ⟨l, hl1, h2⟩ := bndK_ret h1
      have hl1 : bound (tl nt t) 0 lo = some (l : Int) := hl1
      obtain ⟨hh, hh1, h3⟩ := bndK_ret h2
      obtain ⟨h4, h5⟩ := ifB_ret h3
      obtain ⟨h6, h7⟩ := ifB_ret h5
      have h4 := ble_eq h4
      have h6 := ble_eq h6
      refine via (p := 0 ≤ (l : Int) ∧ (l : Int) ≤ (hh : Int) ∧ (hh : Int) ≤ (b.length : Int)) (wr := []) hT ?_ ⟨by omega, by omega, by omega⟩ hn h7
      simp only [opS, ho, opSlice, hx, hk, hl1, hh1, Int.toNat_natCast]
      rfl
    · cases h
  · cases h
end
end Go.Proofs.Ytladpdndjcgebaa.Kx
