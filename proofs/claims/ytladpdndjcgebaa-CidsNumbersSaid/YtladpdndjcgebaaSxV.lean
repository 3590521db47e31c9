/- A region that draws its order: when operations that no edge orders do not meddle with each other, every order comes to what the order of the text comes to. -/
import Derived.Test.YtladpdndjcgebaaSxU
namespace Go.Proofs.Ytladpdndjcgebaa.Sx
set_option linter.unusedVariables false
open Go

theorem force_eq {α : Type} (n : Nat) (k : Nat → α) : force n k = k n := by cases n <;> rfl

/-! ### what stands ahead -/
theorem befL_spec : ∀ (l : List Oper) (acc : List Nat), ∃ B, befL l acc = acc ++ B ∧ B.length = l.length ∧ ∀ j o, l[j]? = some o → (befL l acc).getD (acc.length + j) 0 = bef1 ((befL l acc).take (acc.length + j)) o
  | [], acc => ⟨[], by simp [befL], rfl, by simp⟩
  | o :: l, acc => by
    obtain ⟨B, h1, h2, h3⟩ := befL_spec l (acc ++ [bef1 acc o])
    have he : befL (o :: l) acc = befL l (acc ++ [bef1 acc o]) := by simp [befL, force_eq]
    rw [he]
    refine ⟨bef1 acc o :: B, by rw [h1]; simp, by simp [h2], fun j q hq => ?_⟩
    cases j with
    | zero =>
      simp only [List.getElem?_cons_zero, Option.some.injEq] at hq
      subst hq
      rw [h1]
      simp [List.getD]
    | succ j =>
      have := h3 j q (by simpa using hq)
      simp only [List.length_append, List.length_singleton] at this
      rw [show acc.length + (j + 1) = acc.length + 1 + j by omega]
      exact this

theorem bef1_bit {acc : List Nat} {i : Nat} : ∀ (l : List Edge) (s : Nat), (l.foldl (fun s e => if Region.binds .any e then s ||| 2 ^ e.on ||| acc.getD e.on 0 else s) s).testBit i = true →
    s.testBit i = true ∨ ∃ e ∈ l, Region.binds .any e = true ∧ (e.on = i ∨ (acc.getD e.on 0).testBit i = true)
  | [], s, h => .inl h
  | e :: l, s, h => by
    rw [List.foldl_cons] at h
    rcases bef1_bit l _ h with h1 | ⟨e', he', h2⟩
    · by_cases hb : Region.binds .any e = true
      · rw [if_pos hb] at h1
        simp only [Nat.testBit_or, Bool.or_eq_true] at h1
        rcases h1 with (h1 | h1) | h1
        · exact .inl h1
        · refine .inr ⟨e, by simp, hb, .inl ?_⟩
          rw [Nat.testBit_two_pow] at h1
          exact of_decide_eq_true h1
        · exact .inr ⟨e, by simp, hb, .inr h1⟩
      · rw [if_neg hb] at h1
        exact .inl h1
    · exact .inr ⟨e', by simp [he'], h2⟩

/-- What stands ahead of an operation whose edges are listed is listed. -/
theorem bef_listed {all : List Oper} {listed : Nat → Bool} (hdc : ∀ j o, all[j]? = some o → listed j = true → ∀ e ∈ o.after, Region.binds .any e = true → listed e.on = true) {i : Nat} :
    ∀ (n j : Nat) (o : Oper), j < n → all[j]? = some o → (∀ e ∈ o.after, Region.binds .any e = true → listed e.on = true) → ((befL all []).getD j 0).testBit i = true → listed i = true
  | 0, j, o, h, _, _, _ => by omega
  | n + 1, j, o, hj, ho, hall, hb => by
    obtain ⟨B, h1, h2, h3⟩ := befL_spec all []
    have h4 := h3 j o ho
    simp only [List.length_nil, Nat.zero_add] at h4
    rw [h4] at hb
    rcases bef1_bit _ _ hb with h5 | ⟨e, he, hbe, h6⟩
    · simp at h5
    · have hl := hall e (by simpa using he) hbe
      rcases h6 with rfl | h6
      · exact hl
      · have hlt : e.on < j := by
          rcases Nat.lt_or_ge e.on j with h | h
          · exact h
          · have h0 : ((befL all []).take j).getD e.on 0 = 0 := by
              rw [List.getD_eq_getElem?_getD, List.getElem?_take, if_neg (by omega)]; rfl
            rw [h0] at h6
            simp at h6
        have hlen : j < all.length := (List.getElem?_eq_some_iff.1 ho).1
        have h7 : ((befL all []).getD e.on 0).testBit i = true := by
          rw [List.getD_eq_getElem?_getD, List.getElem?_take, if_pos hlt] at h6
          rwa [List.getD_eq_getElem?_getD]
        exact bef_listed hdc n e.on all[e.on] (by omega) (List.getElem?_eq_getElem (by omega)) (fun e' he' hb' => hdc e.on _ (List.getElem?_eq_getElem (by omega)) hl e' he' hb') h7

/-! ### the state behind a set of operations -/
def tmS (S : Nat → Bool) : Nat → List (Oper × Rec) → List SV → List SV
  | _, [], tm => tm
  | i, x :: l, tm => tmS S (i + 1) l (if S i then put tm x.1.dst x.2.s else tm)
def HS (S : Nat → Bool) : Nat → List (Oper × Rec) → List Ch → List Ch
  | _, [], H => H
  | i, x :: l, H => HS S (i + 1) l (if S i then hsets H x.2.wr else H)

theorem lset_length : ∀ (l : List SV) (d : Nat) (e : SV), (lset l d e).length = l.length
  | [], _, _ => rfl
  | _ :: l, 0, e => by simp [lset]
  | _ :: l, d + 1, e => by simp [lset, lset_length l d e]
theorem put_length (l : List SV) (d : Option Nat) (e : SV) : (put l d e).length = l.length := by
  cases d with
  | none => rfl
  | some d => exact lset_length l d e
theorem lget_lset_ne : ∀ (l : List SV) (d t : Nat) (e : SV), d ≠ t → lget (lset l d e) t = lget l t
  | [], _, _, _, _ => rfl
  | _ :: l, 0, 0, e, h => (h rfl).elim
  | _ :: l, 0, t + 1, e, h => by simp [lset, lget]
  | _ :: l, d + 1, 0, e, h => by simp [lset, lget]
  | _ :: l, d + 1, t + 1, e, h => by simp [lset, lget, lget_lset_ne l d t e (by omega)]
theorem lget_lset_eq : ∀ (l : List SV) (d : Nat) (e : SV), lget (lset l d e) d = if d < l.length then e else undefS
  | [], _, _ => by simp [lset, lget, undefS]
  | _ :: l, 0, e => by simp [lset, lget]
  | _ :: l, d + 1, e => by simp [lset, lget, lget_lset_eq l d e]
theorem lget_put_ne {l : List SV} {d : Option Nat} {t : Nat} {e : SV} (h : d ≠ some t) : lget (put l d e) t = lget l t := by
  cases d with
  | none => rfl
  | some d => exact lget_lset_ne l d t e (fun he => h (by rw [he]))
theorem lget_put_both {l l' : List SV} {d : Option Nat} {t : Nat} {e : SV} (hl : l.length = l'.length) (h : lget l t = lget l' t) : lget (put l d e) t = lget (put l' d e) t := by
  by_cases hd : d = some t
  · subst hd
    simp only [put, lget_lset_eq, hl]
  · rw [lget_put_ne hd, lget_put_ne hd, h]

theorem tmS_length (S : Nat → Bool) : ∀ (l : List (Oper × Rec)) (i : Nat) (tm : List SV), (tmS S i l tm).length = tm.length
  | [], _, _ => rfl
  | x :: l, i, tm => by
    simp only [tmS]
    rw [tmS_length S l]
    split
    · exact put_length ..
    · rfl
theorem tmS_look {S S' : Nat → Bool} {t : Nat} : ∀ (l : List (Oper × Rec)) (i : Nat) (tm tm' : List SV), (∀ k x, l[k]? = some x → S (i + k) ≠ S' (i + k) → x.1.dst ≠ some t) → tm.length = tm'.length → lget tm t = lget tm' t → lget (tmS S i l tm) t = lget (tmS S' i l tm') t
  | [], _, _, _, _, _, h => h
  | x :: l, i, tm, tm', hd, hl, h => by
    simp only [tmS]
    have h0 := hd 0 x rfl
    rw [Nat.add_zero] at h0
    refine tmS_look l (i + 1) _ _ (fun k y hy hne => hd (k + 1) y (by simpa using hy) (by rw [show i + (k + 1) = i + 1 + k by omega]; exact hne)) ?_ ?_
    · cases S i <;> cases S' i <;> simp [put_length, hl]
    · cases h1 : S i <;> cases h2 : S' i
      · simpa using h
      · rw [h1, h2] at h0
        simp only [Bool.false_eq_true, if_false, if_true]
        rw [lget_put_ne (h0 (by simp))]; exact h
      · rw [h1, h2] at h0
        simp only [Bool.false_eq_true, if_false, if_true]
        rw [lget_put_ne (h0 (by simp))]; exact h
      · simp only [if_true]
        exact lget_put_both hl h
theorem tmS_none : ∀ (l : List (Oper × Rec)) (i : Nat) (tm : List SV), tmS (fun _ => false) i l tm = tm
  | [], _, _ => rfl
  | x :: l, i, tm => by simp [tmS, tmS_none l]
theorem tmS_last {S : Nat → Bool} {t : Nat} {x : Oper × Rec} : ∀ (l : List (Oper × Rec)) (i j : Nat) (tm : List SV), l[j]? = some x → S (i + j) = true → x.1.dst = some t → t < tm.length →
    (∀ k y, l[k]? = some y → j < k → S (i + k) = true → y.1.dst ≠ some t) → lget (tmS S i l tm) t = x.2.s
  | [], _, _, _, h, _, _, _, _ => by simp at h
  | y :: l, i, 0, tm, h, hS, hd, ht, hk => by
    simp only [List.getElem?_cons_zero, Option.some.injEq] at h
    subst h
    simp only [tmS]
    rw [Nat.add_zero] at hS
    rw [if_pos hS, tmS_look (S' := fun _ => false) l (i + 1) _ (put tm y.1.dst y.2.s) (fun k z hz hne => hk (k + 1) z (by simpa using hz) (by omega) (by rw [show i + (k + 1) = i + 1 + k by omega]; simpa using hne)) rfl rfl, tmS_none, hd]
    simp only [put, lget_lset_eq, if_pos ht]
  | y :: l, i, j + 1, tm, h, hS, hd, ht, hk => by
    simp only [tmS]
    refine tmS_last l (i + 1) j _ (by simpa using h) (by rw [show i + 1 + j = i + (j + 1) by omega]; exact hS) hd (by split <;> simp [put_length, ht]) (fun k z hz hlt hSk => hk (k + 1) z (by simpa using hz) (by omega) (by rw [show i + (k + 1) = i + 1 + k by omega]; exact hSk))
theorem tmS_append (S : Nat → Bool) : ∀ (l l' : List (Oper × Rec)) (i : Nat) (tm : List SV), tmS S i (l ++ l') tm = tmS S (i + l.length) l' (tmS S i l tm)
  | [], _, _, _ => rfl
  | x :: l, l', i, tm => by simp only [List.cons_append, tmS, List.length_cons]; rw [tmS_append S l l', show i + 1 + l.length = i + (l.length + 1) by omega]
theorem tmS_congr {S S' : Nat → Bool} : ∀ (l : List (Oper × Rec)) (i : Nat) (tm : List SV), (∀ k, k < l.length → S (i + k) = S' (i + k)) → tmS S i l tm = tmS S' i l tm
  | [], _, _, _ => rfl
  | x :: l, i, tm, h => by
    have h0 := h 0 (by simp)
    rw [Nat.add_zero] at h0
    simp only [tmS, h0]
    exact tmS_congr l (i + 1) _ (fun k hk => by have := h (k + 1) (by simp; omega); rwa [show i + (k + 1) = i + 1 + k by omega] at this)

theorem hget_hsets_not : ∀ {wr : List (Nat × Ch)} {H : List Ch} {c : Nat}, c ∉ wnames wr → hget (hsets H wr) c = hget H c
  | [], _, _, _ => rfl
  | (d, e) :: r, H, c, h => by
    simp only [wnames, List.map_cons, List.mem_cons, not_or] at h
    simp only [hsets]
    rw [hget_hsets_not (wr := r) h.2, hget_hset, if_neg h.1]
theorem hget_hsets_mem : ∀ {wr : List (Nat × Ch)} {c : Nat}, c ∈ wnames wr → ∃ y ∈ wr, y.1 = c ∧ ∀ H, hget (hsets H wr) c = y.2
  | [], _, h => by simp [wnames] at h
  | (d, e) :: r, c, h => by
    by_cases hr : c ∈ wnames r
    · obtain ⟨y, hy, h1, h2⟩ := hget_hsets_mem hr
      exact ⟨y, by simp [hy], h1, fun H => by simp only [hsets]; exact h2 _⟩
    · simp only [wnames, List.map_cons, List.mem_cons] at h
      rcases h with h | h
      · refine ⟨(d, e), by simp, h.symm, fun H => ?_⟩
        simp only [hsets]
        rw [hget_hsets_not hr, hget_hset, if_pos h]
      · exact (hr h).elim
theorem HS_look {S S' : Nat → Bool} {c : Nat} : ∀ (l : List (Oper × Rec)) (i : Nat) (H H' : List Ch), (∀ k x, l[k]? = some x → S (i + k) ≠ S' (i + k) → c ∉ wnames x.2.wr) → hget H c = hget H' c → hget (HS S i l H) c = hget (HS S' i l H') c
  | [], _, _, _, _, h => h
  | x :: l, i, H, H', hd, h => by
    simp only [HS]
    have h0 := hd 0 x rfl
    rw [Nat.add_zero] at h0
    refine HS_look l (i + 1) _ _ (fun k y hy hne => hd (k + 1) y (by simpa using hy) (by rw [show i + (k + 1) = i + 1 + k by omega]; exact hne)) ?_
    cases h1 : S i <;> cases h2 : S' i
    · simpa using h
    · rw [h1, h2] at h0
      simp only [Bool.false_eq_true, if_false, if_true]
      rw [hget_hsets_not (h0 (by simp))]; exact h
    · rw [h1, h2] at h0
      simp only [Bool.false_eq_true, if_false, if_true]
      rw [hget_hsets_not (h0 (by simp))]; exact h
    · simp only [if_true]
      by_cases hc : c ∈ wnames x.2.wr
      · obtain ⟨y, _, _, h3⟩ := hget_hsets_mem hc
        rw [h3, h3]
      · rw [hget_hsets_not hc, hget_hsets_not hc, h]
theorem HS_none : ∀ (l : List (Oper × Rec)) (i : Nat) (H : List Ch), HS (fun _ => false) i l H = H
  | [], _, _ => rfl
  | x :: l, i, H => by simp [HS, HS_none l]
theorem HS_last {S : Nat → Bool} {c : Nat} {x : Oper × Rec} : ∀ (l : List (Oper × Rec)) (i j : Nat) (H : List Ch), l[j]? = some x → S (i + j) = true → c ∈ wnames x.2.wr →
    (∀ k y, l[k]? = some y → j < k → S (i + k) = true → c ∉ wnames y.2.wr) → hget (HS S i l H) c = hget (hsets [] x.2.wr) c
  | [], _, _, _, h, _, _, _ => by simp at h
  | y :: l, i, 0, H, h, hS, hc, hk => by
    simp only [List.getElem?_cons_zero, Option.some.injEq] at h
    subst h
    simp only [HS]
    rw [Nat.add_zero] at hS
    rw [if_pos hS, HS_look (S' := fun _ => false) l (i + 1) _ (hsets H y.2.wr) (fun k z hz hne => hk (k + 1) z (by simpa using hz) (by omega) (by rw [show i + (k + 1) = i + 1 + k by omega]; simpa using hne)) rfl, HS_none]
    obtain ⟨y, _, _, h3⟩ := hget_hsets_mem hc
    rw [h3, h3]
  | y :: l, i, j + 1, H, h, hS, hc, hk => by
    simp only [HS]
    exact HS_last l (i + 1) j _ (by simpa using h) (by rw [show i + 1 + j = i + (j + 1) by omega]; exact hS) hc (fun k z hz hlt hSk => hk (k + 1) z (by simpa using hz) (by omega) (by rw [show i + (k + 1) = i + 1 + k by omega]; exact hSk))
theorem HS_append (S : Nat → Bool) : ∀ (l l' : List (Oper × Rec)) (i : Nat) (H : List Ch), HS S i (l ++ l') H = HS S (i + l.length) l' (HS S i l H)
  | [], _, _, _ => rfl
  | x :: l, l', i, H => by simp only [List.cons_append, HS, List.length_cons]; rw [HS_append S l l', show i + 1 + l.length = i + (l.length + 1) by omega]
theorem HS_congr {S S' : Nat → Bool} : ∀ (l : List (Oper × Rec)) (i : Nat) (H : List Ch), (∀ k, k < l.length → S (i + k) = S' (i + k)) → HS S i l H = HS S' i l H
  | [], _, _, _ => rfl
  | x :: l, i, H, h => by
    have h0 := h 0 (by simp)
    rw [Nat.add_zero] at h0
    simp only [HS, h0]
    exact HS_congr l (i + 1) _ (fun k hk => by have := h (k + 1) (by simp; omega); rwa [show i + (k + 1) = i + 1 + k by omega] at this)
theorem HS_le (S : Nat → Bool) : ∀ (l : List (Oper × Rec)) (i : Nat) (H : List Ch), hlen H ≤ hlen (HS S i l H)
  | [], _, _ => Nat.le_refl _
  | x :: l, i, H => by
    simp only [HS]
    refine Nat.le_trans ?_ (HS_le S l (i + 1) _)
    split
    · exact (hlen_hsets _ _).1
    · exact Nat.le_refl _

/-! ### what the run in the order of the text says of each operation -/
def RecOK (P : Program) (all : List Oper) (tm : List SV) (H : List Ch) (x : Oper × Rec) : Prop :=
  (wantS all tm x.1 = some true ∧ OpOK P x.1 tm H x.2.s x.2.rd x.2.wr) ∨ (wantS all tm x.1 = some false ∧ x.2.s = undefS ∧ x.2.wr = [])

def lt (i : Nat) : Nat → Bool := fun k => decide (k < i)

theorem DrRun.facts {P : Program} {all l0 l : List Oper} {tm0 tm : List SV} {H0 H : List Ch} {done : List Rec} (h : DrRun P all l0 tm0 H0 done l tm H) :
    ∃ pre, l0 = pre ++ l ∧ pre.length = done.length ∧ tm = tmS (fun _ => true) 0 (pre.zip done) tm0 ∧ H = HS (fun _ => true) 0 (pre.zip done) H0 ∧
      ∀ (i : Nat) (x : Oper × Rec), (pre.zip done)[i]? = some x → RecOK P all (tmS (lt i) 0 (pre.zip done) tm0) (HS (lt i) 0 (pre.zip done) H0) x := by
  have key : ∀ {pre : List Oper} {o : Oper} {l0 l : List Oper} {done : List Rec} {r : Rec} {tm0 tm : List SV} {H0 H : List Ch}, l0 = pre ++ o :: l → pre.length = done.length → tm = tmS (fun _ => true) 0 (pre.zip done) tm0 → H = HS (fun _ => true) 0 (pre.zip done) H0 →
      (∀ (i : Nat) (x : Oper × Rec), (pre.zip done)[i]? = some x → RecOK P all (tmS (lt i) 0 (pre.zip done) tm0) (HS (lt i) 0 (pre.zip done) H0) x) → RecOK P all tm H (o, r) →
      ∃ pre', l0 = pre' ++ l ∧ pre'.length = (done ++ [r]).length ∧ put tm o.dst r.s = tmS (fun _ => true) 0 (pre'.zip (done ++ [r])) tm0 ∧ hsets H r.wr = HS (fun _ => true) 0 (pre'.zip (done ++ [r])) H0 ∧
      ∀ (i : Nat) (x : Oper × Rec), (pre'.zip (done ++ [r]))[i]? = some x → RecOK P all (tmS (lt i) 0 (pre'.zip (done ++ [r])) tm0) (HS (lt i) 0 (pre'.zip (done ++ [r])) H0) x := by
    intro pre o l0 l done r tm0 tm H0 H h1 h2 h3 h4 h5 h6
    have hz : (pre ++ [o]).zip (done ++ [r]) = pre.zip done ++ [(o, r)] := by rw [List.zip_append h2]; rfl
    have hzl : (pre.zip done).length = done.length := by simp [h2]
    refine ⟨pre ++ [o], by rw [h1]; simp, by simp [h2], ?_, ?_, fun i x hx => ?_⟩
    · rw [hz, tmS_append, ← h3]; rfl
    · rw [hz, HS_append, ← h4]; rfl
    · rw [hz] at hx ⊢
      rw [tmS_append, HS_append]
      have hcase : i < (pre.zip done).length ∨ i = (pre.zip done).length := by
        have := (List.getElem?_eq_some_iff.1 hx).1
        simp only [List.length_append, List.length_singleton] at this
        omega
      rcases hcase with hi | hi
      · rw [List.getElem?_append_left hi] at hx
        have hn : lt i (0 + (pre.zip done).length) = false := by simp only [lt]; exact decide_eq_false (by omega)
        simp only [tmS, HS, hn, Bool.false_eq_true, if_false]
        exact h5 i x hx
      · rw [List.getElem?_append_right (by omega), hi, Nat.sub_self] at hx
        simp only [List.getElem?_cons_zero, Option.some.injEq] at hx
        subst hx
        have hn : lt i (0 + (pre.zip done).length) = false := by simp only [lt]; exact decide_eq_false (by omega)
        simp only [tmS, HS, hn, Bool.false_eq_true, if_false]
        rw [tmS_congr (S' := fun _ => true) (pre.zip done) 0 tm0 (fun k hk => by simp only [lt]; exact decide_eq_true (by omega)), HS_congr (S' := fun _ => true) (pre.zip done) 0 H0 (fun k hk => by simp only [lt]; exact decide_eq_true (by omega)), ← h3, ← h4]
        exact h6
  induction h with
  | nil => exact ⟨[], rfl, rfl, rfl, rfl, by simp⟩
  | step _ hw ho ih =>
    obtain ⟨pre, h1, h2, h3, h4, h5⟩ := ih
    exact key h1 h2 h3 h4 h5 (.inl ⟨hw, ho⟩)
  | skip _ hw ih =>
    obtain ⟨pre, h1, h2, h3, h4, h5⟩ := ih
    exact key (r := ⟨undefS, [], [], false⟩) h1 h2 h3 h4 h5 (.inr ⟨hw, rfl, rfl⟩)

end Go.Proofs.Ytladpdndjcgebaa.Sx
