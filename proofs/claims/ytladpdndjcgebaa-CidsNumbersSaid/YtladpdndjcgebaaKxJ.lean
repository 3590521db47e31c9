/- The machine's operations are the symbolic machine's (6): rows: made, sliced, turned into strings. -/
import Derived.Test.YtladpdndjcgebaaKxI
namespace Go.Proofs.Ytladpdndjcgebaa.Kx
set_option linter.unusedVariables false
open Go Go.Proofs.Ytladpdndjcgebaa.Sx

/-- A row's cells: what is known of each, else the very value. -/
def bF (l : List SV) (us : List Value) (sz : Nat) (i j : Nat) : PV := match lget l (i * sz + j) with
  | .c p => p
  | _ => .v (us.getD (i * sz + j) undef)
theorem bF_is {ρ ρ' : Env} {hP hP' : HL} {l : List SV} {us : List Value} {sz i j : Nat} {u : Value} (hr : Env.le ρ ρ') (hk : HL.le hP hP') (hl : SV.isL ρ hP l us) (h : (bF l us sz i j).is hP' u) : (lget l (i * sz + j)).is ρ' hP' u := by
  have h1 := isL_at (isL_mono hr hk hl) (i * sz + j)
  unfold bF at h
  split at h
  · rename_i p hp
    rw [hp]; exact h
  · obtain ⟨h2, _⟩ := h
    rw [h2]; exact h1
theorem vs_best {ρ : Env} {c : Nat} {hP h : HL} {T sz n : Nat} {l : List SV} (hs : (Ch.vs T sz l).sat ρ c hP h) (hn : l.length = n * sz) (hz : 0 < sz) :
    ∃ us, us.length = l.length ∧ SV.isL ρ hP l us ∧ (Ch.vec T sz n (bF l us sz)).sat ρ c hP h := by
  obtain ⟨us, h1, h2, h3, L, hL, hLs, hnc, hcap, hr⟩ := vs_exact hs hn hz
  refine ⟨us, h1, h2, L, hL, hLs, hnc, hcap, fun hc => ?_⟩
  obtain ⟨arr, fr, h4, h5, h6, h7⟩ := hr hc
  refine ⟨arr, fr, h4, h5, h6, fun i hi j hj => ?_⟩
  obtain ⟨u, h8, h9⟩ := h7 i hi j hj
  refine ⟨u, h8, ?_⟩
  obtain ⟨h10, h11⟩ := exF_is (hP := hP) h9
  have h12 := isL_at h2 (i * sz + j)
  rw [← h10] at h12
  unfold bF
  split
  · rename_i p hp
    rw [hp] at h12; exact h12
  · exact ⟨h10, by rw [← h10]; exact h11⟩
theorem rep_length (z : List SV) : ∀ n, (rep n z).length = n * z.length
  | 0 => by simp [rep]
  | n + 1 => by simp [rep, rep_length z n, Nat.add_mul]; omega
theorem lget_append (a b : List SV) (k : Nat) : lget (a ++ b) k = if k < a.length then lget a k else lget b (k - a.length) := by
  rw [lget_eq, lget_eq, lget_eq, List.getD_eq_getElem?_getD, List.getD_eq_getElem?_getD, List.getD_eq_getElem?_getD]
  split
  · rename_i h; rw [List.getElem?_append_left h]
  · rename_i h; rw [List.getElem?_append_right (by omega)]
theorem lget_mapC : ∀ (z : List PV) (j : Nat), j < z.length → lget (mapC z) j = .c (pget z j)
  | [], j, h => by simp at h
  | p :: z, 0, _ => rfl
  | p :: z, j + 1, h => lget_mapC z j (by simpa using h)
theorem lget_rep (z : List PV) : ∀ (n i j : Nat), i < n → j < z.length → lget (rep n (mapC z)) (i * z.length + j) = .c (pget z j)
  | 0, i, j, h, _ => by omega
  | n + 1, 0, j, _, hj => by
    rw [rep, Nat.zero_mul, Nat.zero_add, lget_append, if_pos (by rw [mapC_length]; exact hj), lget_mapC z j hj]
  | n + 1, i + 1, j, h, hj => by
    rw [rep, lget_append, mapC_length, if_neg (by rw [Nat.add_mul]; omega), show (i + 1) * z.length + j - z.length = i * z.length + j by rw [Nat.add_mul]; omega]
    exact lget_rep z n i j (by omega) hj
theorem wr_new {H : CH} (h : H.n < 262143) (x : CC) : WrOK H.n [(H.n, x)] := ⟨Nat.le_refl _, h, by rw [if_neg (by omega)]; show H.n + 1 ≤ 262143; omega⟩
theorem den_new (H : CH) (x : CC) : denW [(H.n, x)] = [(hlen (hl H), den x)] := by rw [hlen_hl]; rfl

section
variable {P : Program} {ty : Ty} {o : Oper} {nt : Nat}

theorem ok_eqS {T T2 e : Nat} {x y : Operand} (ng : Bool) (hT : TyOK P ty) (hk : (ty T).k = .sl e) (ho : o.op = .binOp (if ng then .neq else .eql) T x y T2) : OBOK P o nt (oEq nt (ty T) x y ng).g := by
  intro K t H s H' hn h
  have h : (gb nt x).g t (fun x => (gb nt y).g t fun y => eqK (ty T) ng K H x y) = .ret s H' := h
  simp only [gb_eq] at h
  have hu : P.underlying T = some (.slice e) := und_of hT hk rfl
  have hopx : x ∈ o.op.operands := by simp [ho, Op.operands]
  have hopy : y ∈ o.op.operands := by simp [ho, Op.operands]
  have hne : ∀ (w : World) (A : Addr) (n c : Nat) (X Y : Operand) (op : BinOp), (eqGuard op T X Y (.slice (some A) n c) (.slice none 0 0)).run P w = .ok () w ∧ (binOp .eql T (.slice (some A) n c) (.slice none 0 0)).run P w = .ok (.bool false) w ∧ (binOp .neq T (.slice (some A) n c) (.slice none 0 0)).run P w = .ok (.bool true) w := by
    intro w A n c X Y op
    have h9 : ∀ d, (Op.equalIn (d + 1) T (.slice (some A) n c) (.slice none 0 0)).run P w = .ok false w := fun d => by simp [Op.equalIn, run_underlying hu]
    refine ⟨by cases op <;> rfl, ?_, ?_⟩ <;> (simp only [binOp]; simp [Op.equal, Op.maxDepth, h9 9999])
  have fin : ∀ (rd : List Nat), (∀ (ρ : Env) (hP h : Nat → HL) (v : Value), True) → (∀ ρ own w, (∀ c ∈ rd, (hget (hl H) c).sat ρ c (view own 0 w) (view own (c + 3) w)) → ∀ v, (ev (tl nt t) x).is ρ (view own 0 w) v → ∃ A n c, v = .slice (some A) n c) → ev (tl nt t) y = .c (.v (.slice none 0 0)) →
      K (.c (.b ng)) rd [] = .ret s H' → ∃ v rd wr, OpOK P o (tl nt t) (hl H) v rd (denW wr) ∧ WrOK H.n wr ∧ K v rd wr = .ret s H' := by
    intro rd _ hx hy hK
    refine ⟨_, rd, [], OpOK.pure fun ρ own w a hop hs => ?_, hn, hK⟩
    have h1 := hop x hopx; have h2 := hop y hopy
    rw [hy] at h2
    obtain ⟨h2, _⟩ := h2
    obtain ⟨A, n, c, h1⟩ := hx ρ own w hs _ h1
    cases ng with
    | true =>
      obtain ⟨e1, e2, e3⟩ := hne w A n c x y .neq
      refine ⟨.bool true, ?_, rfl⟩
      simp only [execOp, ho, if_true, h1, h2]
      rw [Sem.run_bind, Sem.run_bind, e1, Result.andThen_ok, e3]; rfl
    | false =>
      obtain ⟨e1, e2, e3⟩ := hne w A n c x y .eql
      refine ⟨.bool false, ?_, rfl⟩
      simp only [execOp, ho, Bool.false_eq_true, if_false, h1, h2]
      rw [Sem.run_bind, Sem.run_bind, e1, Result.andThen_ok, e2]; rfl
  unfold eqK at h
  rw [hk] at h
  simp only at h
  rcases onL_ret h with ⟨_, _, _, _, _, h1⟩ | ⟨_, _, _, _, _, _, h1⟩ | ⟨hy, h1⟩
  · cases h1
  · cases h1
  rcases onL_ret h1 with ⟨C, st, len, lim, hx, h2⟩ | ⟨C, off, z, len, cap, hx, h2⟩ | ⟨hx, h2⟩
  · rw [hgK_eq] at h2
    obtain ⟨T', z, n, d, hd, h3⟩ := onVs_ret h2
    obtain ⟨h4, h5⟩ := ifN_ret h3
    refine fin [C] (fun _ _ _ _ => trivial) (fun ρ own w hs v hv => ?_) hy h5
    rw [hx] at hv
    obtain ⟨L, A, cap, hL, rfl, _, _, _, _, hnn⟩ := hv
    have hC := hs C (by simp)
    rw [den_vs hd] at hC
    obtain ⟨L', hL', hLs, hlen, _, hz, _⟩ := hC
    obtain rfl : L = L' := by rw [hL] at hL'; simpa using hL'
    rw [dl_length] at hlen
    have hn0 : n * z ≠ 0 := by
      intro e0
      have e1 : Nat.mul n z = 0 := e0
      rw [isZ, e1] at h4
      cases h4
    cases A with
    | some A => exact ⟨A, _, _, rfl⟩
    | none =>
      exfalso
      refine hnn ?_ rfl
      rcases Nat.eq_zero_or_pos L.cap with h0 | h0
      · rw [h0, Nat.zero_mul] at hlen
        omega
      · exact h0
  · rw [cbool_eq] at h2
    refine fin [] (fun _ _ _ _ => trivial) (fun ρ own w hs v hv => ?_) hy h2
    rw [hx] at hv
    obtain ⟨L, A, hL, rfl, _, _, hnn⟩ := hv
    cases A with
    | some A => exact ⟨A, _, _, rfl⟩
    | none => exact (hnn rfl).elim
  · rw [cbool_eq] at h2
    refine via (p := True) (wr := []) hT ?_ trivial hn h2
    simp only [opS, ho]
    rw [hx, hy]
    cases ng <;> simp [opBin, eqS, hk, denW]
theorem ok_makeSlice {T : Nat} {x y : Operand} (hT : TyOK P ty) (ho : o.op = .makeSlice T x y) : OBOK P o nt (oMakeSlice nt ty T x y).g := by
  intro K t H s H' hn h
  unfold oMakeSlice at h
  split at h
  case h_2 => cases h
  rename_i e hk
  rw [ifB_eq] at h
  split at h
  · cases h
  rename_i hc
  simp only [Bool.or_eq_true, Nat.beq_eq, not_or, Bool.not_eq_true] at hc
  obtain ⟨hz, hoth⟩ := hc
  have h : gvK nt x t (fun x => gvK nt y t fun y => onI x fun _ l => onI y fun _ c => ifB (cle 0 l) (ifB (cle l c) (ifB (Nat.ble (Nat.mul (ty e).by_ (natI c)) 281474976710656) (ifB (Nat.ble (natI c) 9223372036854775807)
      (onNew H fun C => forceN (natI l) fun n => twrK (rep n (mapC (ty e).z)) 0 [] fun t => K (.sl C 0 n none) [] [(C, .vs e (ty e).sz n t)]) (.bad "makeSlice: size")) (.bad "makeSlice: size")) (.bad "makeSlice: cap")) (.bad "makeSlice: len")) = .ret s H' := h
  rw [gvK_eq, gvK_eq] at h
  obtain ⟨k1, l, hx, h1⟩ := onI_ret h
  obtain ⟨k2, c, hy, h2⟩ := onI_ret h1
  obtain ⟨h3, h4⟩ := ifB_ret h2
  obtain ⟨h5, h6⟩ := ifB_ret h4
  obtain ⟨h7, h8⟩ := ifB_ret h6
  obtain ⟨h9, h10⟩ := ifB_ret h8
  obtain ⟨hlt, h11⟩ := onNew_ret h10
  rw [forceN_eq, twrK_eq, natI_eq] at h11
  rw [cle_eq, decide_eq_true_iff] at h3 h5
  have h7 := ble_eq h7
  have h9 := ble_eq h9
  rw [natI_eq] at h7 h9
  have h7 : (ty e).by_ * c.toNat ≤ 281474976710656 := h7
  refine ⟨_, _, _, at_world (s := .sl H.n 0 l.toNat none) (rd := []) (wr := denW [(H.n, .vs e (ty e).sz l.toNat (twr (rep l.toNat (mapC (ty e).z)) 0 []))]) hT fun ρ own w a hop hsat _ => ?_, wr_new hlt _, h11⟩
  refine ⟨tl nt t, hl H, (0 ≤ l ∧ l ≤ c ∧ ((ty e).by_ : Int) * c ≤ 281474976710656 ∧ c ≤ 9223372036854775807), .sl H.n 0 l.toNat none, [], [(H.n, .vec e (ty e).sz l.toNat (zeroF (ty e).z))], hop, fun c hc => hsat c hc, rfl, rfl, ?_, ⟨h3, h5, ?_, by omega⟩, fun ρ' own' w' v hr hk' hv' hw => ⟨hv', fun y hy => ?_⟩⟩
  · simp only [opS, ho, opMakeSlice, hx, hy, hk, hlen_hl]
    rw [if_neg (by rw [hoth]; simp; exact hz)]
  · have e1 : ((ty e).by_ : Int) * c = (((ty e).by_ * c.toNat : Nat) : Int) := by
      rw [Int.natCast_mul, Int.toNat_of_nonneg (by omega)]
    rw [e1]; omega
  · simp only [denW, List.map_cons, List.map_nil, List.mem_singleton] at hy
    subst hy
    have hzl := ty_z hT hoth
    refine vs_back (hw _ (List.mem_singleton.2 rfl)) (by omega) (dl_length _ _) fun i hi j hj u hu => ?_
    rw [dl_twr (by rw [rep_length, mapC_length, hzl]), ← hzl, lget_rep (ty e).z l.toNat i j hi (by omega)]
    exact hu
end
end Go.Proofs.Ytladpdndjcgebaa.Kx
