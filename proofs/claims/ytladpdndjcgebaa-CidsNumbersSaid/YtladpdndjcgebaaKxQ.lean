/- The machine's calls (2): a call amid a draw, over what it can reach. -/
import Derived.Test.YtladpdndjcgebaaKxP
namespace Go.Proofs.Ytladpdndjcgebaa.Kx
set_option linter.unusedVariables false
open Go Go.Proofs.Ytladpdndjcgebaa.Sx

/-! ### names -/
def AllLt (n : Nat) (l : List Nat) : Prop := ∀ c ∈ l, c < n
theorem AllLt.cons {n c : Nat} {l : List Nat} (h : AllLt n (c :: l)) : c < n ∧ AllLt n l := ⟨h c (by simp), fun x hx => h x (by simp [hx])⟩
theorem AllLt.app {n : Nat} {l r : List Nat} (h : AllLt n (l ++ r)) : AllLt n l ∧ AllLt n r := ⟨fun x hx => h x (by simp [hx]), fun x hx => h x (by simp [hx])⟩
mutual
theorem namesS_bnd {n : Nat} : ∀ (s : SV) (a : List Nat), AllLt n (namesS s a) → s.bnd n = true ∧ AllLt n a
  | .p C _, a, h => ⟨decide_eq_true (h.cons).1, (h.cons).2⟩
  | .q C _ _, a, h => ⟨decide_eq_true (h.cons).1, (h.cons).2⟩
  | .sl C _ _ _, a, h => ⟨decide_eq_true (h.cons).1, (h.cons).2⟩
  | .sc C _ _ _ _, a, h => ⟨decide_eq_true (h.cons).1, (h.cons).2⟩
  | .m C, a, h => ⟨decide_eq_true (h.cons).1, (h.cons).2⟩
  | .st C, a, h => ⟨decide_eq_true (h.cons).1, (h.cons).2⟩
  | .a l, a, h => namesL_bnd l a h
  | .t l, a, h => namesL_bnd l a h
  | .fn _ l, a, h => namesL_bnd l a h
  | .c _, a, h => ⟨rfl, h⟩
  | .top, a, h => ⟨rfl, h⟩
  | .pe _ _, a, h => ⟨rfl, h⟩
theorem namesL_bnd {n : Nat} : ∀ (l : List SV) (a : List Nat), AllLt n (namesL l a) → SV.bndL n l = true ∧ AllLt n a
  | [], a, h => ⟨rfl, h⟩
  | s :: l, a, h => by
    obtain ⟨h1, h2⟩ := namesS_bnd s _ h
    obtain ⟨h3, h4⟩ := namesL_bnd l a h2
    exact ⟨by simp only [SV.bndL, h1, h3, Bool.and_self], h4⟩
end
noncomputable def namesOf (c : CC) (a : List Nat) : List Nat := match c with
  | .cells _ n t => namesL (trd n 0 t) a
  | .vs _ sz n t => namesL (trd (Nat.mul n sz) 0 t) a
  | .map _ _ _ sts => sts.map (·.1) ++ a
  | .none => a
theorem namesC_eq (c : CC) (a : List Nat) (K : List Nat → EX) : namesC c a K = K (namesOf c a) := by
  cases c with
  | cells T n t => exact trdK_eq n t 0 _
  | vs T sz n t => exact trdK_eq _ t 0 _
  | map k n l sts => rfl
  | none => rfl
theorem namesOf_bnd {n : Nat} {c : CC} {a : List Nat} (h : AllLt n (namesOf c a)) : (den c).bnd n = true ∧ AllLt n a := by
  cases c with
  | cells T m t => rw [namesOf, trd_dl] at h; exact namesL_bnd _ _ h
  | vs T sz m t => rw [namesOf, trd_dl] at h; exact namesL_bnd _ _ h
  | map k m l sts =>
    obtain ⟨h1, h2⟩ := AllLt.app h
    refine ⟨?_, h2⟩
    simp only [den, Ch.bnd, List.all_eq_true, decide_eq_true_eq]
    exact fun x hx => h1 x.1 (List.mem_map.2 ⟨x, hx, rfl⟩)
  | none => exact ⟨rfl, h⟩
theorem hasN_iff {c : Nat} : ∀ {l : List Nat}, hasN c l = true → c ∈ l
  | [], h => by cases h
  | x :: l, h => by
    have h : ifB (Nat.beq x c) true (hasN c l) = true := h
    rw [ifB_eq] at h
    split at h
    · rename_i he
      have := Nat.eq_of_beq_eq_true he
      simp [this]
    · exact List.mem_cons_of_mem _ (hasN_iff h)
theorem reachK_ret {H : CH} {K : List Nat → EX} {s : SV} {H' : CH} : ∀ (fuel : Nat) (todo acc : List Nat), reachK H K fuel todo acc = .ret s H' →
    ∃ acc', K acc' = .ret s H' ∧ ∀ n, AllLt n acc' → AllLt n todo ∧ AllLt n acc ∧ ∀ c ∈ acc', c ∈ acc ∨ (den (hg H c)).bnd n = true
  | 0, todo, acc, h => by cases h
  | fuel + 1, [], acc, h => ⟨acc, h, fun n hn => ⟨fun c hc => (by cases hc), hn, fun c hc => .inl hc⟩⟩
  | fuel + 1, c :: r, acc, h => by
    have h : ifB (hasN c acc) (reachK H K fuel r acc) (hgK H c fun x => namesC x r fun r => reachK H K fuel r (acc ++ [c])) = .ret s H' := h
    rw [ifB_eq] at h
    split at h
    · rename_i hc
      obtain ⟨acc', h1, h2⟩ := reachK_ret fuel r acc h
      refine ⟨acc', h1, fun n hn => ?_⟩
      obtain ⟨h3, h4, h5⟩ := h2 n hn
      exact ⟨fun x hx => by
        rcases List.mem_cons.1 hx with rfl | hx
        · exact h4 _ (hasN_iff hc)
        · exact h3 _ hx, h4, h5⟩
    · rw [hgK_eq, namesC_eq] at h
      obtain ⟨acc', h1, h2⟩ := reachK_ret fuel _ _ h
      refine ⟨acc', h1, fun n hn => ?_⟩
      obtain ⟨h3, h4, h5⟩ := h2 n hn
      obtain ⟨h6, h7⟩ := namesOf_bnd h3
      obtain ⟨h8, h9⟩ := AllLt.app h4
      refine ⟨fun x hx => ?_, h8, fun x hx => ?_⟩
      · rcases List.mem_cons.1 hx with rfl | hx
        · exact h9 _ (by simp)
        · exact h7 _ hx
      · rcases h5 x hx with h | h
        · rcases List.mem_append.1 h with h | h
          · exact .inl h
          · obtain rfl : x = c := by simpa using h
            exact .inr h6
        · exact .inr h
theorem ltAll_iff {n : Nat} : ∀ {l : List Nat}, ltAll n l = true → AllLt n l
  | [], _ => fun c hc => by cases hc
  | x :: l, h => by
    have h : ifB (Nat.blt x n) (ltAll n l) false = true := h
    rw [ifB_eq] at h
    split at h
    · rename_i hx
      intro c hc
      rcases List.mem_cons.1 hc with rfl | hc
      · simpa [Nat.blt_eq] using hx
      · exact ltAll_iff h c hc
    · cases h

/-! ### the memory handed over, and what comes back -/
noncomputable def subM (H : CH) : List Nat → M6 → M6
  | [], t => t
  | c :: l, t => subM H l (mset c (hg H c) t)
theorem subK_eq (H : CH) (K : M6 → EX) : ∀ (idx : List Nat) (t : M6), subK H K idx t = K (subM H idx t)
  | [], t => rfl
  | c :: l, t => by
    show hgK H c (fun x => msetK c x t (subK H K l)) = _
    rw [hgK_eq, msetK_eq, subK_eq H K l]
    rfl
theorem mget_z6 (i : Nat) : mget i z6 = .none := by
  unfold mget
  have e6 : ∀ d, h6get d z6 = z5 := fun d => by cases d <;> rfl
  have e5 : ∀ d, h5get d z5 = z4 := fun d => by cases d <;> rfl
  have e4 : ∀ d, h4get d z4 = z3 := fun d => by cases d <;> rfl
  have e3 : ∀ d, h3get d z3 = z2 := fun d => by cases d <;> rfl
  have e2 : ∀ d, h2get d z2 = z1 := fun d => by cases d <;> rfl
  have e1 : ∀ d, h1get d z1 = .none := fun d => by cases d <;> rfl
  rw [e6, e5, e4, e3, e2, e1]
theorem mget_subM {H : CH} : ∀ (idx : List Nat) (t : M6) (i : Nat), AllLt 262144 idx → i < 262144 → mget i (subM H idx t) = if i ∈ idx then hg H i else mget i t
  | [], t, i, _, _ => by simp [subM]
  | c :: l, t, i, h, hi => by
    obtain ⟨h1, h2⟩ := h.cons
    rw [subM, mget_subM l _ i h2 hi, mget_mset hi h1]
    by_cases hl : i ∈ l
    · simp [hl]
    · by_cases hc : i = c
      · subst hc; simp [hl]
      · simp [hl, hc]
noncomputable def backF (H : CH) : Nat → Nat → List (Nat × CC)
  | 0, _ => []
  | n + 1, k => (k, hg H k) :: backF H n (k + 1)
theorem backK_eq (H : CH) : ∀ (n k : Nat) (K : List (Nat × CC) → EX), backK H n k K = K (backF H n k)
  | 0, _, _ => rfl
  | n + 1, k, K => by
    show hgK H k (fun x => forceN (Nat.succ k) fun k' => backK H n k' fun r => K ((k, x) :: r)) = _
    rw [hgK_eq, forceN_eq, backK_eq H n]
    rfl
noncomputable def backM (H : CH) (idx : List Nat) (n : Nat) : List (Nat × CC) := idx.map (fun c => (c, hg H c)) ++ backF H (H.n - n) n
theorem backL_eq (H : CH) : ∀ (idx : List Nat) (n : Nat) (K : List (Nat × CC) → EX), backL H idx n K = K (backM H idx n)
  | [], n, K => backK_eq H _ n K
  | c :: l, n, K => by
    show hgK H c (fun x => backL H l n fun r => K ((c, x) :: r)) = _
    rw [hgK_eq, backL_eq H l]
    rfl
theorem backF_mem {H : CH} : ∀ {n k : Nat} {x : Nat × CC}, x ∈ backF H n k → k ≤ x.1 ∧ x.1 < k + n ∧ x.2 = hg H x.1
  | 0, _, _, h => by cases h
  | n + 1, k, x, h => by
    rcases List.mem_cons.1 h with rfl | h
    · exact ⟨Nat.le_refl _, by simp only; omega, rfl⟩
    · obtain ⟨h1, h2, h3⟩ := backF_mem h
      exact ⟨by omega, by omega, h3⟩
theorem mem_backF {H : CH} : ∀ {n k c : Nat}, k ≤ c → c < k + n → (c, hg H c) ∈ backF H n k
  | 0, _, _, _, _ => by omega
  | n + 1, k, c, h1, h2 => by
    by_cases h : c = k
    · subst h; exact List.mem_cons_self ..
    · exact List.mem_cons_of_mem _ (mem_backF (by omega) (by omega))
theorem WrOK_backF {H : CH} : ∀ (n k : Nat), k + n ≤ 262143 → WrOK k (backF H n k)
  | 0, k, h => h
  | n + 1, k, h => ⟨Nat.le_refl k, by omega, by rw [if_neg (by omega)]; exact WrOK_backF n (k + 1) (by omega)⟩
theorem WrOK_back {H : CH} {n : Nat} (hn : n ≤ H.n) (hH : H.n ≤ 262143) : ∀ (idx : List Nat), AllLt n idx → WrOK n (backM H idx n)
  | [], _ => WrOK_backF _ _ (by omega)
  | c :: l, h => by
    obtain ⟨h1, h2⟩ := h.cons
    exact ⟨by omega, by omega, by rw [if_pos h1]; exact WrOK_back hn hH l h2⟩

section
variable {P : Program} {ty : Ty}

/-- A contract over some chunks of memory, whatever else there is: the names stay. -/
theorem mask_ok {o : Oper} {c : Call} {g : Operand} {f : Nat} {caps tm : List SV} {H Hm H1 : CH} {idx : List Nat} {s : SV} (ho : o.op = .call c) (hc : c.callee = .value g) (hev : ev tm g = .fn f caps)
    (hs : Sx.Spec P f (evs tm c.args.toList ++ caps) (hl Hm) (fun r chs => r = s ∧ chs = hl H1)) (hmn : Hm.n = H.n) (hm : ∀ k, hget (hl Hm) k = if k ∈ idx then hget (hl H) k else .none) (hn : H.n ≤ H1.n)
    (hlt : AllLt H.n idx) (hba : SV.bndL H.n (evs tm c.args.toList ++ caps) = true) (hbh : ∀ k ∈ idx, (hget (hl H) k).bnd H.n = true) : OpOK P o tm (hl H) s [] (denW (backM H1 idx H.n)) := by
  intro ρ own w a K Q hop hsat hnews hK
  have hwn : ∀ k, k ∈ wnames (denW (backM H1 idx H.n)) ↔ k ∈ idx ∨ (H.n ≤ k ∧ k < H1.n) := by
    intro k
    simp only [wnames, denW, backM, List.map_append, List.map_map, List.mem_append, List.mem_map]
    constructor
    · rintro (⟨x, hx, rfl⟩ | ⟨x, hx, rfl⟩)
      · exact .inl hx
      · obtain ⟨h1, h2, _⟩ := backF_mem hx
        exact .inr ⟨h1, by simp only [Function.comp_apply]; omega⟩
    · rintro (h | ⟨h1, h2⟩)
      · exact .inl ⟨k, h, rfl⟩
      · exact .inr ⟨_, mem_backF (H := H1) h1 (by omega), rfl⟩
  let ρc : Env := fun k => if k < H.n then ρ k else none
  let own0 : Nat → Nat := fun b => if own b = 0 then 0 else if 3 ≤ own b ∧ own b - 3 ∈ idx then own b else 1
  have hρc : ∀ k, k < H.n → ρc k = ρ (id k) := fun k hk => if_pos hk
  have hview0 : view own0 0 w = view own 0 w := by
    funext b
    unfold view
    by_cases h0 : own b = 0
    · rw [if_pos h0, if_pos (by simp only [own0]; rw [if_pos h0])]
    · rw [if_neg h0, if_neg (by simp only [own0]; rw [if_neg h0]; split <;> omega)]
  have hviewk : ∀ k, k ∈ idx → view own0 (k + 3) w = view own (k + 3) w := fun k hk => by
    funext b
    unfold view
    by_cases h0 : own b = k + 3
    · rw [if_pos h0, if_pos (by simp only [own0]; rw [if_neg (by omega), if_pos ⟨by omega, by rw [h0]; exact hk⟩]; exact h0)]
    · rw [if_neg h0, if_neg (by
        simp only [own0]
        split
        · omega
        · split
          · exact h0
          · omega)]
  obtain ⟨vs, hvs, hrun⟩ := call_enter hs.1 ho hc hev w hop
  have hsatm : SatH ρc own0 w (hl Hm) := fun k => by
    rw [hm k]
    split
    · rename_i hk
      have h1 := hsat k (.inr ((hwn k).2 (.inl hk)))
      rw [hview0, hviewk k hk]
      exact Ch.back (σ := id) hρc (hlt k hk) (hbh k hk) (Ch.ren_sat (σ := id) (fun _ _ h => h) (HL.le_refl _) (HL.le_refl _) h1)
    · trivial
  have hvs' : SV.isL ρc (view own0 0 w) (evs tm c.args.toList ++ caps) vs := by
    rw [hview0]
    exact SV.backL (σ := id) hρc _ _ hba (SV.renL_is (σ := id) (fun _ _ h => h) (HL.le_refl _) _ _ hvs)
  have hcall := hs.2 ρc own0 w vs (fun k hk => by rw [hlen_hl, hmn] at hk; exact if_neg (by omega)) hvs' hsatm
  unfold Oper.wp
  rw [hrun, Oper.upon_enter]
  refine Calls.mono hcall fun e w' he => ?_
  obtain ⟨v, r, chs, ρ1, own1, rfl, ⟨rfl, rfl⟩, hsince, hnone, hr, hsat1⟩ := he
  have hloc : ∀ k, k < H.n → ρ1 k = ρc k := fun k hk => hsince.loc k (by rw [hlen_hl, hmn]; exact hk)
  have hnone : ∀ k, H1.n ≤ k → ρ1 k = none := fun k hk => hnone k (by rw [hlen_hl]; exact hk)
  let ρ' : Env := fun q => if H.n ≤ q ∧ q < H1.n then ρ1 q else ρ q
  let own' : Nat → Nat := fun b => if own1 b = 0 then 0 else if 3 ≤ own1 b ∧ (own1 b - 3 ∈ idx ∨ (H.n ≤ own1 b - 3 ∧ own1 b - 3 < H1.n)) then own1 b else if b < w.heap.size then own b else 1
  have hρ' : Env.le ρ1 ρ' := fun k l hkl => by
    simp only [ρ']
    by_cases h1 : k < H.n
    · rw [if_neg (by omega)]
      rw [hloc k h1] at hkl
      simp only [ρc] at hkl
      rw [if_pos h1] at hkl
      exact hkl
    · by_cases h2 : k < H1.n
      · rw [if_pos ⟨by omega, h2⟩]; exact hkl
      · rw [hnone k (by omega)] at hkl; cases hkl
  have h0 : HL.le (view own1 0 w') (view own' 0 w') := fun b ob hb => by
    have e1 := view_own hb
    have e2 := view_heap hb
    have e3 : own' b = 0 := by simp only [own']; rw [if_pos e1]
    unfold view
    rw [if_pos e3]
    exact e2
  have hk' : ∀ k, (k ∈ idx ∨ (H.n ≤ k ∧ k < H1.n)) → HL.le (view own1 (k + 3) w') (view own' (k + 3) w') := fun k hk b ob hb => by
    have e1 := view_own hb
    have e2 := view_heap hb
    have e3 : own' b = k + 3 := by simp only [own']; rw [if_neg (by omega), if_pos ⟨by omega, by rw [e1]; simpa using hk⟩, e1]
    unfold view
    rw [if_pos e3]
    exact e2
  refine hK ρ' own' w' v ⟨fun q hq => ?_, fun k hk b ob hb => ?_, hsince.size, hsince.os, hsince.tape, hsince.output⟩ (SV.mono hρ' h0 _ _ hr) fun x hx => ?_
  · by_cases hc : H.n ≤ q ∧ q < H1.n
    · exfalso
      apply hq
      simp only [newsOf, List.mem_filter, decide_eq_true_eq, hlen_hl]
      exact ⟨(hwn q).2 (.inr hc), hc.1⟩
    · simp only [ρ']
      rw [if_neg hc]
  · have e1 := view_own hb
    have e2 := view_heap hb
    have hbs := lt_of_some e2
    by_cases hk0 : k = 0
    · subst hk0
      exact h0 b ob (hsince.sub 0 (by omega) b ob (by simp only; rw [hview0]; exact hb))
    · have hone : own0 b = 1 := by
        simp only [own0]
        rw [if_neg (by omega), if_neg]
        rintro ⟨h3, hi⟩
        exact hk (own b - 3) ((hwn _).2 (.inl hi)) (by omega)
      have h1 := hsince.sub 1 (by omega) b ob (by simp only; unfold view; rw [if_pos hone]; exact e2)
      have e3 := view_own h1
      have e4 := view_heap h1
      have e5 : own' b = k := by simp only [own']; rw [if_neg (by omega), if_neg (by omega), if_pos hbs, e1]
      unfold view
      rw [if_pos e5]
      exact e4
  · have hx1 : x.1 ∈ wnames (denW (backM H1 idx H.n)) := List.mem_map.2 ⟨x, hx, rfl⟩
    have hx2 : x.2 = hget (hl H1) x.1 := by
      rw [hget_hl]
      simp only [denW, backM, List.mem_map, List.mem_append] at hx
      obtain ⟨y, hy, rfl⟩ := hx
      rcases hy with ⟨z, _, rfl⟩ | hy
      · rfl
      · obtain ⟨_, _, h3⟩ := backF_mem hy
        simp only [h3]
    rw [hx2]
    exact Ch.sat_mono hρ' h0 (hk' _ ((hwn _).1 hx1)) (hsat1 x.1)

theorem callD_ok (hT : TyOK P ty) (hm : P.follows .mixedOrders = true) {rc : Rc} (hrc : RcOK P ty rc) {o : Oper} {c : Call} {g : Operand} {f : Nat} {caps tm : List SV} {H H' : CH} {acc idx : List Nat} {s : SV} {k : SV → List (Nat × CC) → EX} (ho : o.op = .call c) (hc : c.callee = .value g) (hev : ev tm g = .fn f caps)
    (hn : H.n ≤ 262143) (h : callD P rc f (evs tm c.args.toList ++ caps) H acc idx k = .ret s H') (hacc : AllLt H.n acc → SV.bndL H.n (evs tm c.args.toList ++ caps) = true ∧ ∀ c ∈ acc, (hget (hl H) c).bnd H.n = true) (hidx : ∀ c ∈ idx, c ∈ acc) :
    ∃ v wr, OpOK P o tm (hl H) v [] (denW wr) ∧ WrOK H.n wr ∧ k v wr = .ret s H' := by
  unfold callD at h
  obtain ⟨h1, h2⟩ := ifB_ret h
  rw [subK_eq] at h2
  obtain ⟨v, H1, h3, h4⟩ := onRet_ret h2
  obtain ⟨h5, h6⟩ := ifB_ret h4
  rw [backL_eq] at h6
  have hlt := ltAll_iff h1
  obtain ⟨hba, hbh⟩ := hacc hlt
  obtain ⟨e1, e2, e3⟩ := callK_spec hT hm hrc (H := ⟨H.n, subM H idx z6⟩) hn h3
  have hli : AllLt H.n idx := fun c hc => hlt c (hidx c hc)
  refine ⟨v, _, mask_ok ho hc hev e3 rfl (fun k => ?_) e1 hli hba (fun k hk => hbh k (hidx k hk)), WrOK_back e1 e2 idx hli, h6⟩
  rw [hget_hl, hget_hl]
  unfold hg
  simp only [ifB_eq, Nat.blt_eq]
  by_cases hk : k < H.n
  · rw [if_pos hk, if_pos hk, mget_subM idx z6 k (fun c hc => by have := hli c hc; omega) (by omega), mget_z6]
    split
    · unfold hg; simp only [ifB_eq, Nat.blt_eq]; rw [if_pos hk]
    · rfl
  · rw [if_neg hk, if_neg hk, if_neg (fun h => hk (hli k h))]
    rfl
end
end Go.Proofs.Ytladpdndjcgebaa.Kx
