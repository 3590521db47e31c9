/- The machine's run is sound. -/
import Derived.Test.YtladpdndjcgebaaKxR
namespace Go.Proofs.Ytladpdndjcgebaa.Kx
set_option linter.unusedVariables false
open Go Go.Proofs.Ytladpdndjcgebaa.Sx

section
variable {P : Program} {ty : Ty} {fi : FI}

theorem Ends.step {k k' : List It} {t : N3} {H H' : CH} {s : SV} (hs : ∀ E s0 ρ own a w, EOK P ty fi s H' E → St E s0 (tl fi.nt t) (hl H) ρ own a w → ∀ cs, Go.step E.P (lone ((base E.f).at a (k.map It.den)) cs w) = .next (lone ((base E.f).at a (k'.map It.den)) cs w))
    (h : Ends P ty fi k' t H s H') : Ends P ty fi k t H s H' := ⟨h.1, h.2.1, fun E hE => RunsFrom.step (fun s0 ρ own a w hst => hs E s0 ρ own a w hE hst) (h.2.2 E hE)⟩

theorem resK_ret {t : N3} {H H' : CH} {s : SV} : ∀ (l : List ResultVar) (K : List SV → EX), resK ty fi.nt t H l K = .ret s H' → ∃ rs, resS ty (tl fi.nt t) (hl H) l = some rs ∧ K rs = .ret s H'
  | [], K, h => ⟨[], rfl, h⟩
  | .tmp n :: l, K, h => by
    have h : gvK fi.nt (.tmp n) t (fun v => resK ty fi.nt t H l fun r => K (v :: r)) = .ret s H' := h
    rw [gvK_eq] at h
    obtain ⟨rs, h1, h2⟩ := resK_ret l _ h
    refine ⟨_, ?_, h2⟩
    simp only [resS, h1]
    rfl
  | .cell n T :: l, K, h => by
    have h : ifB (okTy (ty T)) (gvK fi.nt (.tmp n) t fun x => onA x (ldP (ty T).sz (ty T).agg (fun v _ _ => resK ty fi.nt t H l fun r => K (v :: r)) H) (fun _ _ _ => .bad "result: of what")) (.bad "result") = .ret s H' := h
    obtain ⟨hok, h⟩ := ifB_ret h
    obtain ⟨hoth, hsz, hag⟩ := okTy_eq hok
    rw [gvK_eq] at h
    rcases onA_ret h with ⟨C, off, hx, h1⟩ | ⟨C, i, j, hx, h1⟩
    · rw [ldP, hgK_eq] at h1
      obtain ⟨T', n', d, hd, h2⟩ := onCells_ret h1
      obtain ⟨h3, h4⟩ := ifB_ret h2
      rw [rdvK_eq hag] at h4
      obtain ⟨rs, h5, h6⟩ := resK_ret l _ h4
      refine ⟨_, ?_, h6⟩
      have hx : lget (tl fi.nt t) n = .p C off := hx
      simp only [resS, h5, opLoad, hoth, hx, hget_hl, hd, den]
      rw [lslice_dl (ble_eq h3)]
      simp only [decP_true]
    · cases h1

theorem fin_ok (hT : TyOK P ty) {t : N3} {H H' : CH} {s : SV} {rc : Rc} {rj : Rj} (hn : H.n ≤ 262143) (h : (fin ty fi).g rc rj t H = .ret s H') : Ends P ty fi [] t H s H' ∧ ∀ k, Ends P ty fi (.code .ret :: k) t H s H' := by
  have h : resK ty fi.nt t H fi.rs (retL H) = .ret s H' := h
  obtain ⟨rs, h1, h2⟩ := resK_ret _ _ h
  have h3 : H = H' ∧ resW (some rs) = some s := by
    unfold retL at h2
    split at h2
    · cases h2; exact ⟨rfl, rfl⟩
    · rename_i hne
      cases h2
      refine ⟨rfl, ?_⟩
      unfold resW
      split
      · rename_i s' he; cases he; exact (hne s' rfl).elim
      · rename_i l he; cases he; rfl
      · rename_i he; cases he
  obtain ⟨rfl, h4⟩ := h3
  have key : ∀ E, EOK P ty fi s H E → RunsFrom E [] (tl fi.nt t) (hl H) ∧ ∀ k', RunsFrom E (.code .ret :: k') (tl fi.nt t) (hl H) := fun E hE => by
    refine fin_sound (s := s) (by rw [hE.hP, hE.hty]; exact hT) (by rw [hE.hP]; exact hE.f) (fun s0 ρ own w v hsince hlen hfresh his hsat => ⟨v, s, hl H, ρ, own, rfl, by rw [hE.post]; exact ⟨rfl, rfl⟩, hsince, hfresh, his, hsat⟩) ?_
    rw [hE.hty, hE.rs, h1]
    exact h4
  exact ⟨⟨Nat.le_refl _, hn, fun E hE => (key E hE).1⟩, fun k => ⟨Nat.le_refl _, hn, fun E hE => (key E hE).2 k⟩⟩

theorem kk_ok (hT : TyOK P ty) (hm : P.follows .mixedOrders = true) (h512 : fi.nt ≤ 512) : ∀ (m : Nat) (k : List It), FBOK P ty fi k (kk P ty fi m k) := by
  intro m
  induction m with
  | zero => intro k rc rj _ _ t H s H' _ h; cases h
  | succ m ih =>
    intro k
    cases k with
    | nil => exact fun rc rj _ _ t H s H' hn h => (fin_ok hT hn (rc := rc) (rj := rj) h).1
    | cons i k =>
      cases i with
      | blk id => exact fun rc rj _ hrj t H s H' hn h => (hrj k t H s H' hn h).step fun _ _ _ _ _ _ _ _ _ => step_inBlock
      | lp c => exact fun rc rj _ hrj t H s H' hn h => (hrj (.code c :: .lp c :: k) t H s H' hn h).step fun _ _ _ _ _ _ _ _ _ => step_inLoop
      | code c =>
        cases c with
        | skip => exact fun rc rj hrc hrj t H s H' hn h => (ih k rc rj hrc hrj t H s H' hn h).step fun _ _ _ _ _ _ _ _ _ => step_skip
        | seq a b => exact fun rc rj hrc hrj t H s H' hn h => (ih (.code a :: .code b :: k) rc rj hrc hrj t H s H' hn h).step fun _ _ _ _ _ _ _ _ _ => step_seq
        | block id c => exact fun rc rj hrc hrj t H s H' hn h => (ih (.code c :: .blk id :: k) rc rj hrc hrj t H s H' hn h).step fun _ _ _ _ _ _ _ _ _ => step_block
        | loop c => exact fun rc rj _ hrj t H s H' hn h => (hrj (.code c :: .lp c :: k) t H s H' hn h).step fun _ _ _ _ _ _ _ _ _ => step_loop
        | exit id =>
          intro rc rj hrc hrj t H s H' hn h
          cases hx : xexit id k with
          | none =>
            have h : (match xexit id k with | some k' => (⟨fun rc rj t H => rj k' t H⟩ : FB) | none => ⟨fun _ _ _ _ => .bad "exit"⟩).g rc rj t H = .ret s H' := h
            rw [hx] at h
            cases h
          | some k' =>
            have h : (match xexit id k with | some k' => (⟨fun rc rj t H => rj k' t H⟩ : FB) | none => ⟨fun _ _ _ _ => .bad "exit"⟩).g rc rj t H = .ret s H' := h
            rw [hx] at h
            exact (hrj k' t H s H' hn h).step fun _ _ _ _ _ _ _ _ _ => step_exit (xexit_den hx)
        | cond c a b =>
          intro rc rj hrc hrj t H s H' hn h
          have h : (gb fi.nt c).g t (fun x => onB x fun e => Bool.rec (motive := fun _ => EX) (rj (.code b :: k) t H) (rj (.code a :: k) t H) e) = .ret s H' := h
          rw [gb_eq] at h
          obtain ⟨e, hx, h1⟩ := onB_ret h
          have h2 : rj (.code (if e then a else b) :: k) t H = .ret s H' := by cases e <;> exact h1
          refine (hrj _ t H s H' hn h2).step fun E s0 ρ own ac w hE hst cs => step_cond ?_
          have := ev_is hst.tmps c
          rw [hx] at this
          exact this
        | ret => exact fun rc rj _ _ t H s H' hn h => (fin_ok hT hn (rc := rc) (rj := rj) h).2 k
        | region id ops dr =>
          cases dr with
          | false =>
            intro rc rj hrc hrj t H s H' hn h
            obtain ⟨e1, e2, e3⟩ := kl_ok (all := ops.toList) hT hm h512 (LBOK_nil (ih k)) ops.toList rc rj hrc hrj t H s H' hn h
            refine ⟨e1, e2, fun E hE s0 ρ own a w hst => ?_⟩
            refine runs_of_wp (wp_region ?_)
            have h2 := e3 E hE s0 ρ own a w hst
            have h3 := wpOps_eq_wpList (P := E.P) (ops := ops) (Q := exitQ E s0 k) ops.toList 0 (by simp)
            rw [Array.length_toList, ← List.range_eq_range'] at h3
            rw [Array.toArray_toList] at h2
            rw [← h3] at h2
            exact h2
          | true =>
            intro rc rj hrc hrj t H s H' hn h
            obtain ⟨e1, e2, e3⟩ := el_ok (all := ops.toList) hT hm h512 (ih k) ops.toList 0 (by simp) rc rj hrc hrj [] t H s H' hn h
            refine ⟨e1, e2, fun E hE s0 ρ own a w hst => ?_⟩
            refine runs_of_wp (wp_region_any (by rw [hE.hP]; exact hm) ?_)
            have h2 := e3 E hE ⟨tl fi.nt t, hl H, []⟩ rfl rfl (.nil ..) s0 ρ own a _ hst.drew
            rw [Array.toArray_toList, Array.length_toList] at h2
            exact h2
        | _ => intro rc rj _ _ t H s H' _ h; cases h

theorem run_ok (hT : TyOK P ty) (hm : P.follows .mixedOrders = true) : ∀ n, RcOK P ty (run P ty n) := by
  intro n
  induction n with
  | zero => intro fi k t H s H' _ _ h; cases h
  | succ n ih => exact fun fi k t H s H' h512 hn h => kk_ok hT hm h512 100000 k _ _ ih (fun k t H s H' hn h => ih fi k t H s H' h512 hn h) t H s H' hn h

/-- What the machine says of a call over no memory. -/
theorem spec_says (hT : TyOK P ty) (hm : P.follows .mixedOrders = true) {n f : Nat} (h : saysTrue P ty n f = true) : ∃ post, Sx.Spec P f [] [] (fun r chs => r = .c (.b true) ∧ chs = post) := by
  unfold saysTrue at h
  cases hx : callX P ty n f [] ⟨0, z6⟩ with
  | ret s H1 =>
    rw [hx] at h
    have hs : s = .c (.b true) := by
      clear hx
      cases s with
      | c p => cases p with
        | b b => (have h : b = true := h); rw [h]
        | _ => cases h
      | _ => cases h
    subst hs
    obtain ⟨_, _, e⟩ := callK_spec hT hm (run_ok hT hm n) (H := ⟨0, z6⟩) (Nat.zero_le _) hx
    exact ⟨_, e⟩
  | bad w => rw [hx] at h; cases h
  | stop a b c => rw [hx] at h; cases h
  | drw a b => rw [hx] at h; cases h
end
end Go.Proofs.Ytladpdndjcgebaa.Kx
