/- A region that draws its order (2): the theorem. -/
import Derived.Test.YtladpdndjcgebaaSxV
namespace Go.Proofs.Ytladpdndjcgebaa.Sx
set_option linter.unusedVariables false
open Go

theorem ev_congr {tm tm' : List SV} {x : Operand} (h : ∀ t, x = .tmp t → lget tm t = lget tm' t) : ev tm x = ev tm' x := by
  cases x with
  | tmp t => exact h t rfl
  | _ => rfl

theorem looks_oper {ops : Array Oper} {o : Oper} {t : Nat} (h : Operand.tmp t ∈ o.op.operands) : t ∈ o.looksAt ops :=
  List.mem_append_left _ (List.mem_filterMap.2 ⟨.tmp t, by simpa using h, rfl⟩)

theorem wantS_congr {all : List Oper} {tm tm' : List SV} {o : Oper} (h : ∀ t, t ∈ o.looksAt all.toArray → lget tm t = lget tm' t) : wantS all tm o = wantS all tm' o := by
  unfold wantS
  cases hg : o.guard with
  | none => rfl
  | some jw =>
    obtain ⟨j, want⟩ := jw
    simp only
    cases hj : nth all j with
    | none => rfl
    | some oj =>
      cases hd : oj.dst with
      | none => simp only [hd]
      | some d =>
        simp only [hd]
        rw [h d]
        rw [nth_eq] at hj
        refine List.mem_append_right _ ?_
        simp [hg, hj, hd]

/-- What the check says of two operations that no edge orders. -/
structure Apart (all : List Oper) (z : List (Oper × Rec)) (x y : Oper × Rec) : Prop where
  look : ∀ t, t ∈ x.1.looksAt all.toArray → y.1.dst ≠ some t
  dst : ∀ t, x.1.dst = some t → y.1.dst ≠ some t
  rd : ∀ c, c ∈ x.2.rd → c ∉ wnames y.2.wr
  wr : ∀ c, c ∈ wnames x.2.wr → c ∉ wnames y.2.wr

theorem clash_not {x y : FP} (h : clash x y = false) : ∀ c, c ∈ x.wr → c ∉ y.wr ∧ c ∉ y.rd := by
  intro c hc
  unfold clash at h
  rw [List.any_eq_false] at h
  have := h c hc
  simp only [Bool.or_eq_true, List.contains_iff_mem, not_or] at this
  exact this

theorem fps_get : ∀ (l : List Rec) (i : Nat), (fps l)[i]? = (l[i]?).map fun r => ⟨r.rd, wnames r.wr, r.run⟩
  | [], i => by simp [fps]
  | r :: l, 0 => by simp [fps]
  | r :: l, i + 1 => by simp [fps, fps_get l i]

theorem indep_at {all : List Oper} {done : List Rec} (hlen : all.length = done.length) (h : indepB (befL all []) all (fps done) = true) {i j : Nat} (hij : i < j) {x y : Oper × Rec} (hx : (all.zip done)[i]? = some x) (hy : (all.zip done)[j]? = some y)
    (hb : ((befL all []).getD j 0).testBit i = false) : Apart all (all.zip done) x y ∧ Apart all (all.zip done) y x := by
  obtain ⟨xo, xr⟩ := x
  obtain ⟨yo, yr⟩ := y
  rw [List.getElem?_zip_eq_some] at hx hy
  have hj : j < all.length := (List.getElem?_eq_some_iff.1 hy.1).1
  unfold indepB at h
  rw [List.all_eq_true] at h
  have h1 := h j (List.mem_range.2 hj)
  rw [List.all_eq_true] at h1
  have h2 := h1 i (List.mem_range.2 hij)
  unfold indepOf at h2
  rw [hb, Bool.false_or, fps_get, fps_get, hx.1, hx.2, hy.1, hy.2] at h2
  simp only [Option.map_some, Bool.and_eq_true, Bool.not_eq_true'] at h2
  obtain ⟨⟨hc1, hc2⟩, hap⟩ := h2
  obtain ⟨a1, a2, a3⟩ := Oper.apart_spec hap
  have k1 := clash_not hc1
  have k2 := clash_not hc2
  refine ⟨⟨fun t ht he => a3 t he ht, fun t ht => a2 t ht, fun c hc hw => (k2 c hw).2 hc, fun c hc hw => (k1 c hc).1 hw⟩, ⟨fun t ht he => a1 t he ht, fun t ht he => a2 t he ht, fun c hc hw => (k1 c hw).2 hc, fun c hc hw => (k2 c hc).1 hw⟩⟩

structure Inv (E : FE) (s0 : Start) (z : List (Oper × Rec)) (tm0 : List SV) (H0 : List Ch) (S : Nat → Bool) (ρ : Env) (own : Nat → Nat) (a : Act) (w : World) : Prop where
  since : Since E.k0 s0 ρ own w
  fresh : ∀ c, hlen H0 ≤ c → (∀ k x, z[k]? = some x → S k = true → c ∉ wnames x.2.wr) → ρ c = none
  tmps : SV.isL ρ (view own 0 w) (tmS S 0 z tm0) a.tmps.toList
  defers : a.defers = []
  sat : SatH ρ own w (HS S 0 z H0)

theorem isL_ext {ρ : Env} {hP : HL} : ∀ {l l' : List SV} {vs : List Value}, l.length = l'.length → (∀ t, t < l.length → lget l t = lget l' t) → SV.isL ρ hP l vs → SV.isL ρ hP l' vs
  | [], [], _, _, _, h => h
  | x :: l, y :: l', vs, hl, hg, h => by
    have h0 := hg 0 (by simp)
    simp only [lget] at h0
    subst h0
    obtain ⟨u, us, rfl, h1, h2⟩ := h
    exact ⟨u, us, rfl, h1, isL_ext (by simpa using hl) (fun t ht => by have := hg (t + 1) (by simp; omega); simpa [lget] using this) h2⟩
  | [], _ :: _, _, hl, _, _ => by simp at hl
  | _ :: _, [], _, hl, _, _ => by simp at hl

theorem wnames_lt {z : List (Oper × Rec)} {S : Nat → Bool} {H0 : List Ch} : ∀ {l : List (Oper × Rec)} {i k : Nat} {x : Oper × Rec} {H : List Ch}, l[k]? = some x → S (i + k) = true → ∀ c, c ∈ wnames x.2.wr → c < hlen (HS S i l H)
  | [], _, _, _, _, h, _, _, _ => by simp at h
  | y :: l, i, 0, x, H, h, hS, c, hc => by
    simp only [List.getElem?_cons_zero, Option.some.injEq] at h
    subst h
    rw [Nat.add_zero] at hS
    simp only [HS, hS, if_true]
    refine Nat.lt_of_lt_of_le ?_ (HS_le S l (i + 1) _)
    simp only [wnames, List.mem_map] at hc
    obtain ⟨q, hq, rfl⟩ := hc
    exact (hlen_hsets _ _).2 q hq
  | y :: l, i, k + 1, x, H, h, hS, c, hc => by
    simp only [HS]
    exact wnames_lt (z := z) (H0 := H0) (l := l) (i := i + 1) (k := k) (by simpa using h) (by rw [show i + 1 + k = i + (k + 1) by omega]; exact hS) c hc

/-- One operation more. -/
theorem Inv.step {E : FE} {s0 : Start} {z : List (Oper × Rec)} {tm0 : List SV} {H0 : List Ch} {S S' : Nat → Bool} {ρ ρ' : Env} {own own' : Nat → Nat} {a : Act} {w w' : World} {i : Nat} {x : Oper × Rec} {v : Value}
    (h : Inv E s0 z tm0 H0 S ρ own a w) (hx : z[i]? = some x) (hSi : S i = false) (hS'i : S' i = true) (hS : ∀ k, k ≠ i → S' k = S k) (hk0 : E.k0 ≤ hlen H0)
    (hlater : ∀ k y, z[k]? = some y → i < k → S k = true → (∀ t, x.1.dst = some t → y.1.dst ≠ some t) ∧ ∀ c, c ∈ wnames x.2.wr → c ∉ wnames y.2.wr)
    {news : List Nat} (hnews : ∀ c ∈ news, ρ c = none ∧ hlen H0 ≤ c ∧ c ∈ wnames x.2.wr) (hs : Stp news (wnames x.2.wr) ρ own w ρ' own' w') (hv : x.2.s.is ρ' (view own' 0 w') v)
    (hw : ∀ y ∈ x.2.wr, y.2.sat ρ' y.1 (view own' 0 w') (view own' (y.1 + 3) w')) : Inv E s0 z tm0 H0 S' ρ' own' (a.put x.1.dst v) w' := by
  have hle := hs.envLe (fun c hc => (hnews c hc).1)
  have h0 : HL.le (view own 0 w) (view own' 0 w') := hs.sub 0 (by omega)
  refine ⟨⟨fun c hc => ?_, fun k hk => ?_, Nat.le_trans h.since.size hs.size, hs.os.trans h.since.os, hs.tape.trans h.since.tape, hs.output.trans h.since.output⟩, fun c hc hno => ?_, ?_, ?_, fun c => ?_⟩
  · rw [hs.loc c (fun hm => by have := (hnews c hm).2.1; omega)]
    exact h.since.loc c hc
  · exact HL.le_trans (h.since.sub k hk) (hs.sub k (by omega))
  · have hci : c ∉ wnames x.2.wr := hno i x hx hS'i
    rw [hs.loc c (fun hm => hci (hnews c hm).2.2)]
    exact h.fresh c hc fun k y hy hSk => hno k y hy (by
      rw [hS k (by rintro rfl; rw [hSi] at hSk; cases hSk)]; exact hSk)
  · have h1 := put_tmps (SV.monoL hle h0 _ _ h.tmps) hv x.1.dst
    refine isL_ext (by rw [put_length, tmS_length, tmS_length]) (fun t ht => ?_) h1
    rw [put_length, tmS_length] at ht
    by_cases hd : x.1.dst = some t
    · rw [hd]
      simp only [put, lget_lset_eq, tmS_length, if_pos ht]
      refine (tmS_last z 0 i tm0 hx (by simpa using hS'i) hd ht (fun k y hy hlt hSk => ?_)).symm
      rw [Nat.zero_add, hS k (by omega)] at hSk
      exact (hlater k y hy hlt hSk).1 t hd
    · rw [lget_put_ne hd]
      refine tmS_look z 0 tm0 tm0 (fun k y hy hne => ?_) rfl rfl
      rw [Nat.zero_add] at hne
      by_cases hki : k = i
      · subst hki
        rw [hx] at hy
        simp only [Option.some.injEq] at hy
        subst hy
        exact hd
      · exact (hne (hS k hki).symm).elim
  · rw [put_defers]; exact h.defers
  · by_cases hc : c ∈ wnames x.2.wr
    · rw [HS_last z 0 i H0 hx (by simpa using hS'i) hc (fun k y hy hlt hSk => by
        rw [Nat.zero_add, hS k (by omega)] at hSk
        exact (hlater k y hy hlt hSk).2 c hc)]
      obtain ⟨y, hy, rfl, h3⟩ := hget_hsets_mem hc
      rw [h3]
      exact hw y hy
    · rw [HS_look (S' := S) z 0 H0 H0 (fun k y hy hne => ?_) rfl]
      · exact Ch.sat_mono hle h0 (hs.sub (c + 3) (fun d hd he => hc ((show c = d by omega) ▸ hd))) (h.sat c)
      · rw [Nat.zero_add] at hne
        by_cases hki : k = i
        · subst hki
          rw [hx] at hy
          simp only [Option.some.injEq] at hy
          subst hy
          exact hc
        · exact (hne (hS k hki)).elim

theorem draw_sound {E : FE} {all : List Oper} {tm0 tm : List SV} {H0 H : List Ch} {done : List Rec} (hd : DrRun E.P all all tm0 H0 done [] tm H) (hi : indep all (fps done) = true) {s0 : Start} {ρ : Env} {own : Nat → Nat} {a : Act} {w : World}
    (hst : St E s0 tm0 H0 ρ own a w) {Q : Exit → Act → World → Prop} (hQ : ∀ ρ own a w, St E s0 tm H ρ own a w → Q .normal a w) :
    wpAny E.P .any all.toArray Q all.length (Array.replicate all.length false) a w := by
  obtain ⟨pre, h1, h2, h3, h4, h5⟩ := hd.facts
  simp only [List.append_nil] at h1
  subst h1
  unfold indep at hi
  rw [Bool.and_eq_true] at hi
  obtain ⟨hed, hind⟩ := hi
  have hzlen : (all.zip done).length = all.length := by simp [h2]
  have hk0 := hst.len
  have main : ∀ (fuel : Nat) (listed : Array Bool) (ρ : Env) (own : Nat → Nat) (a : Act) (w : World), listed.size = all.length → listed.toList.count false ≤ fuel →
      (∀ j o, all[j]? = some o → listed.getD j false = true → ∀ e ∈ o.after, Region.binds .any e = true → listed.getD e.on false = true) →
      Inv E s0 (all.zip done) tm0 H0 (fun k => listed.getD k false) ρ own a w → wpAny E.P .any all.toArray Q fuel listed a w := by
    have hfin : ∀ (listed : Array Bool) (ρ : Env) (own : Nat → Nat) (a : Act) (w : World), listed.size = all.length →
        Inv E s0 (all.zip done) tm0 H0 (fun k => listed.getD k false) ρ own a w → Region.ready .any all.toArray listed = [] → Q .normal a w := by
      intro listed ρ own a w hsz hinv hr
      have hall : ∀ (n k : Nat), k < n → k < all.length → listed.getD k false = true := by
        intro n
        induction n with
        | zero => intro k h; omega
        | succ n ih =>
          intro k hk hkl
          by_cases hl : listed.getD k false = true
          · exact hl
          · exfalso
            have hm : k ∈ Region.ready .any all.toArray listed := by
              rw [mem_ready]
              refine ⟨?_, all[k], by simp [hkl], fun e he hb => ?_⟩
              · have : k < listed.size := by omega
                simp only [Array.getD, this, dite_true] at hl ⊢
                simpa using hl
              · have hlt : e.on < k := by
                  unfold edgesOK at hed
                  rw [List.all_eq_true] at hed
                  have h1 := hed k (List.mem_range.2 hkl)
                  rw [List.getElem?_eq_getElem hkl] at h1
                  simp only [List.all_eq_true] at h1
                  have h2 := h1 e (by simpa using he)
                  simpa [hb] using h2
                exact ih e.on (by omega) (by omega)
            rw [hr] at hm
            cases hm
      have hc : ∀ k, k < (all.zip done).length → listed.getD (0 + k) false = true := fun k hk => by rw [Nat.zero_add]; exact hall (k + 1) k (by omega) (by omega)
      have e1 := tmS_congr (S := fun k => listed.getD k false) (S' := fun _ => true) (all.zip done) 0 tm0 hc
      have e2 := HS_congr (S := fun k => listed.getD k false) (S' := fun _ => true) (all.zip done) 0 H0 hc
      refine hQ ρ own a w ⟨hinv.since, fun c hcc => ?_, by rw [h3, ← e1]; exact hinv.tmps, hinv.defers, by rw [h4, ← e2]; exact hinv.sat, ?_⟩
      · refine hinv.fresh c (Nat.le_trans ?_ hcc) (fun k x hx hSk hm => ?_)
        · rw [h4]; exact HS_le _ _ _ _
        · have := wnames_lt (z := []) (S := fun _ => true) (H0 := H0) (i := 0) (H := H0) hx rfl c hm
          rw [← h4] at this
          omega
      · rw [h4]; exact Nat.le_trans hk0 (HS_le _ _ _ _)
    intro fuel
    induction fuel with
    | zero =>
      intro listed ρ own a w hsz hcount hdc hinv
      have hr : Region.ready .any all.toArray listed = [] := by
        cases hr : Region.ready .any all.toArray listed with
        | nil => rfl
        | cons i l =>
          have hm : i ∈ Region.ready .any all.toArray listed := by rw [hr]; simp
          obtain ⟨hun, o, ho, _⟩ := mem_ready.1 hm
          have hil : i < listed.size := by
            have := (List.getElem?_eq_some_iff.1 (show all[i]? = some o by simpa using ho)).1
            omega
          have : false ∈ listed.toList := by
            simp only [Array.getD, hil, dite_true] at hun
            rw [← hun]
            simp
          have := List.count_pos_iff.2 this
          omega
      exact ⟨hr, hfin listed ρ own a w hsz hinv hr⟩
    | succ fuel ih =>
      intro listed ρ own a w hsz hcount hdc hinv
      refine ⟨hfin listed ρ own a w hsz hinv, fun i hm => ?_⟩
      obtain ⟨hun, o, ho, hedges⟩ := mem_ready.1 hm
      have ho : all[i]? = some o := by simpa using ho
      have hil : i < all.length := (List.getElem?_eq_some_iff.1 ho).1
      have hunf : listed.getD i false = false := by
        have : i < listed.size := by omega
        simp only [Array.getD, this, dite_true] at hun ⊢
        exact hun
      obtain ⟨r, hr⟩ : ∃ r, done[i]? = some r := ⟨done[i]'(by omega), List.getElem?_eq_getElem _⟩
      have hz : (all.zip done)[i]? = some (o, r) := by rw [List.getElem?_zip_eq_some]; exact ⟨ho, hr⟩
      have hap : ∀ k y, (all.zip done)[k]? = some y → k ≠ i → (listed.getD k false ≠ lt i k) → Apart all (all.zip done) (o, r) y := by
        intro k y hy hki hne
        obtain ⟨yo, yr⟩ := y
        have hyo := (List.getElem?_zip_eq_some.1 hy).1
        rcases Nat.lt_or_ge k i with hlt | hge
        · have hnl : listed.getD k false = false := by
            have : lt i k = true := by simp only [lt]; exact decide_eq_true hlt
            rw [this] at hne
            simpa using hne
          refine (indep_at h2 hind hlt hy hz ?_).2
          cases hb : ((befL all []).getD i 0).testBit k with
          | false => rfl
          | true =>
            have := bef_listed (listed := fun k => listed.getD k false) hdc (i + 1) i o (by omega) ho hedges hb
            rw [hnl] at this
            cases this
        · have hnl : listed.getD k false = true := by
            have : lt i k = false := by simp only [lt]; exact decide_eq_false (by omega)
            rw [this] at hne
            simpa using hne
          refine (indep_at h2 hind (show i < k by omega) hz hy ?_).1
          cases hb : ((befL all []).getD k 0).testBit i with
          | false => rfl
          | true =>
            have := bef_listed (listed := fun k => listed.getD k false) hdc (k + 1) k yo (by omega) hyo (hdc k yo hyo hnl) hb
            rw [hunf] at this
            cases this
      have hlook : ∀ t, t ∈ o.looksAt all.toArray → lget (tmS (fun k => listed.getD k false) 0 (all.zip done) tm0) t = lget (tmS (lt i) 0 (all.zip done) tm0) t := by
        intro t ht
        refine tmS_look _ _ _ _ (fun k y hy hne => ?_) rfl rfl
        rw [Nat.zero_add] at hne
        by_cases hki : k = i
        · subst hki
          exfalso
          refine hne ?_
          rw [hunf]
          exact (decide_eq_false (Nat.lt_irrefl _)).symm
        · exact (hap k y hy hki hne).look t ht
      have hsatc : ∀ c, c ∈ r.rd ∨ c ∈ wnames r.wr → hget (HS (fun k => listed.getD k false) 0 (all.zip done) H0) c = hget (HS (lt i) 0 (all.zip done) H0) c := by
        intro c hc
        refine HS_look _ _ _ _ (fun k y hy hne => ?_) rfl
        rw [Nat.zero_add] at hne
        by_cases hki : k = i
        · subst hki
          exfalso
          refine hne ?_
          rw [hunf]
          exact (decide_eq_false (Nat.lt_irrefl _)).symm
        · exact hc.elim (fun hc => (hap k y hy hki hne).rd c hc) (fun hc => (hap k y hy hki hne).wr c hc)
      have hset : ∀ k, k ≠ i → (listed.setIfInBounds i true).getD k false = listed.getD k false := fun k hk => getD_set_ne false (Ne.symm hk)
      have hseti : (listed.setIfInBounds i true).getD i false = true := by
        have : i < listed.size := by omega
        simp [this]
      have hcount' : (listed.setIfInBounds i true).toList.count false ≤ fuel := by
        have hi' : i < listed.toList.length := by simp; omega
        have hli : listed.toList[i] = false := by
          have : i < listed.size := by omega
          simp only [Array.getD, this, dite_true] at hunf
          simpa using hunf
        rw [Array.toList_setIfInBounds, List.count_set hi', hli]
        rw [if_pos (by rfl), if_neg (by decide)]
        omega
      have hdc' : ∀ j q, all[j]? = some q → (listed.setIfInBounds i true).getD j false = true → ∀ e ∈ q.after, Region.binds .any e = true → (listed.setIfInBounds i true).getD e.on false = true := by
        intro j q hq hj e he hb
        by_cases hji : j = i
        · subst hji
          rw [ho] at hq
          simp only [Option.some.injEq] at hq
          subst hq
          exact getD_set_true (hedges e he hb)
        · rw [hset j hji] at hj
          exact getD_set_true (hdc j q hq hj e he hb)
      have hlater : ∀ k y, (all.zip done)[k]? = some y → i < k → listed.getD k false = true → (∀ t, o.dst = some t → y.1.dst ≠ some t) ∧ ∀ c, c ∈ wnames r.wr → c ∉ wnames y.2.wr := by
        intro k y hy hlt hk
        have := hap k y hy (by omega) (by rw [hk]; simp only [lt]; rw [decide_eq_false (by omega)]; simp)
        exact ⟨this.dst, this.wr⟩
      have hgo : ∀ {news : List Nat} {ρ' : Env} {own' : Nat → Nat} {w' : World} {v : Value}, (∀ c ∈ news, ρ c = none ∧ hlen H0 ≤ c ∧ c ∈ wnames r.wr) → Stp news (wnames r.wr) ρ own w ρ' own' w' → r.s.is ρ' (view own' 0 w') v →
          (∀ y ∈ r.wr, y.2.sat ρ' y.1 (view own' 0 w') (view own' (y.1 + 3) w')) → wpAny E.P .any all.toArray Q fuel (listed.setIfInBounds i true) (a.put o.dst v) w' := by
        intro news ρ' own' w' v hnews hs hv hw
        exact ih _ ρ' own' _ w' (by simpa using hsz) hcount' hdc' (hinv.step hz hunf hseti hset hk0 hlater hnews hs hv hw)
      unfold wpOp
      have hoa : all.toArray[i]? = some o := by simpa using ho
      simp only [hoa]
      rcases h5 i (o, r) hz with ⟨hw, hok⟩ | ⟨hw, hs, hwr⟩
      · rw [← wantS_congr hlook] at hw
        rw [wanted_of hinv.tmps hw]
        simp only [if_true]
        refine .inl (hok ρ own w a _ Q (fun x hx => ?_) (fun c hc => ?_) (fun c hc => ?_) fun ρ' own' w' v hs hv hwr => ?_)
        · rw [← ev_congr (tm := tmS (fun k => listed.getD k false) 0 (all.zip done) tm0) (fun t ht => hlook t (looks_oper (by rw [← ht]; exact hx)))]
          exact ev_is hinv.tmps x
        · rw [← hsatc c hc]; exact hinv.sat c
        · have hlt := newsOf_lt hc
          refine hinv.fresh c (Nat.le_trans (HS_le _ _ _ _) hlt.1) (fun k y hy hk hm => ?_)
          have hkn : k ≠ i := by rintro rfl; rw [hunf] at hk; cases hk
          have hcw : c ∈ wnames r.wr := by simp only [newsOf, List.mem_filter] at hc; exact hc.1
          rcases Nat.lt_or_ge k i with hlt2 | hge
          · have := wnames_lt (z := []) (S := lt i) (H0 := H0) (i := 0) (H := H0) hy (by rw [Nat.zero_add]; simp only [lt]; exact decide_eq_true hlt2) c hm
            omega
          · exact (hlater k y hy (by omega) hk).2 c hcw hm
        · exact hgo (fun c hc => ⟨by
            have hlt := newsOf_lt hc
            refine hinv.fresh c (Nat.le_trans (HS_le _ _ _ _) hlt.1) (fun k y hy hk hm => ?_)
            have hkn : k ≠ i := by rintro rfl; rw [hunf] at hk; cases hk
            have hcw : c ∈ wnames r.wr := by simp only [newsOf, List.mem_filter] at hc; exact hc.1
            rcases Nat.lt_or_ge k i with hlt2 | hge
            · have := wnames_lt (z := []) (S := lt i) (H0 := H0) (i := 0) (H := H0) hy (by rw [Nat.zero_add]; simp only [lt]; exact decide_eq_true hlt2) c hm
              omega
            · exact (hlater k y hy (by omega) hk).2 c hcw hm, Nat.le_trans (HS_le _ _ _ _) (newsOf_lt hc).1, by simp only [newsOf, List.mem_filter] at hc; exact hc.1⟩) hs hv hwr
      · rw [← wantS_congr hlook] at hw
        rw [wanted_of hinv.tmps hw]
        simp only [Bool.false_eq_true, if_false]
        refine hgo (news := []) (ρ' := ρ) (own' := own) (by simp) ⟨fun _ _ => rfl, fun _ _ => HL.le_refl _, Nat.le_refl _, rfl, rfl, rfl⟩ ?_ (by simp only at hwr; rw [hwr]; simp)
        simp only at hs
        rw [hs]
        exact ⟨#[], rfl, rfl⟩
  refine main _ _ ρ own a w (by simp) (by simp) (fun j o _ hj => ?_) ⟨hst.since, fun c hc _ => hst.fresh c hc, ?_, hst.defers, ?_⟩
  · rcases Nat.lt_or_ge j all.length with h | h <;> simp [h] at hj
  · have : tmS (fun k => (Array.replicate all.length false).getD k false) 0 (all.zip done) tm0 = tm0 := by
      rw [tmS_congr (S' := fun _ => false) _ _ _ (fun k hk => by simp only [Nat.zero_add]; rcases Nat.lt_or_ge k all.length with h | h <;> simp [h]), tmS_none]
    rw [this]; exact hst.tmps
  · have : HS (fun k => (Array.replicate all.length false).getD k false) 0 (all.zip done) H0 = H0 := by
      rw [HS_congr (S' := fun _ => false) _ _ _ (fun k hk => by simp only [Nat.zero_add]; rcases Nat.lt_or_ge k all.length with h | h <;> simp [h]), HS_none]
    rw [this]; exact hst.sat
end Go.Proofs.Ytladpdndjcgebaa.Sx
