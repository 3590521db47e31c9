/- Rows whose cells are listed: seen, in each world, as rows of the very values that lie there. -/
import Derived.Test.YtladpdndjcgebaaKxE
namespace Go.Proofs.Ytladpdndjcgebaa.Kx
set_option linter.unusedVariables false
open Go Go.Proofs.Ytladpdndjcgebaa.Sx

def exF (us : List Value) (sz : Nat) (i j : Nat) : PV := .v (us.getD (i * sz + j) undef)
theorem getD_some {us : List Value} {k : Nat} (h : k < us.length) : us[k]? = some (us.getD k undef) := by
  rw [List.getD_eq_getElem?_getD, List.getElem?_eq_getElem h]; rfl

theorem vs_exact {ρ : Env} {c : Nat} {hP h : HL} {T sz n : Nat} {l : List SV} (hs : (Ch.vs T sz l).sat ρ c hP h) (hn : l.length = n * sz) (hz : 0 < sz) :
    ∃ us, us.length = l.length ∧ SV.isL ρ hP l us ∧ (∀ u ∈ us, u.oneCell' = true) ∧ (Ch.vec T sz n (exF us sz)).sat ρ c hP h := by
  obtain ⟨L, hL, hsz, hlen, hcap, _, hr⟩ := hs
  have hnc : n ≤ L.cap := by
    rw [hn] at hlen
    exact Nat.le_of_mul_le_mul_right hlen hz
  by_cases hc : 0 < L.cap
  · obtain ⟨arr, fr, h1, h2, h3, us, h4, h5⟩ := hr hc
    have hul := isL_length h4
    refine ⟨us, hul, h4, fun u hu => ?_, L, hL, hsz, hnc, hcap, fun _ => ⟨arr, fr, h1, h2, h3, fun i hi j hj => ?_⟩⟩
    · obtain ⟨k, hk, rfl⟩ := List.mem_iff_getElem.1 hu
      exact (h5 k _ (List.getElem?_eq_getElem hk)).2
    · have hk : i * sz + j < us.length := by
        rw [hul, hn]
        calc i * sz + j < i * sz + sz := by omega
          _ = (i + 1) * sz := by rw [Nat.add_mul]; omega
          _ ≤ n * sz := Nat.mul_le_mul_right _ (by omega)
      obtain ⟨h6, h7⟩ := h5 _ _ (getD_some hk)
      exact ⟨_, h6, rfl, h7⟩
  · have h0 : n = 0 := by omega
    subst h0
    have : l = [] := List.eq_nil_of_length_eq_zero (by omega)
    subst this
    exact ⟨[], rfl, rfl, by simp, L, hL, hsz, hnc, hcap, fun h => (hc h).elim⟩

theorem isL_of {ρ : Env} {hP : HL} : ∀ {l : List SV} {us : List Value}, us.length = l.length → (∀ k, k < l.length → (lget l k).is ρ hP (us.getD k undef)) → SV.isL ρ hP l us
  | [], [], _, _ => rfl
  | [], _ :: _, h, _ => by simp at h
  | _ :: _, [], h, _ => by simp at h
  | s :: l, u :: us, h, hk => ⟨u, us, rfl, hk 0 (by simp), isL_of (by simpa using h) fun k hk' => by simpa [lget] using hk (k + 1) (by simpa using hk')⟩
theorem vs_back {ρ : Env} {c : Nat} {hP h : HL} {T sz n : Nat} {l : List SV} {g : Nat → Nat → PV} (hs : (Ch.vec T sz n g).sat ρ c hP h) (hz : 0 < sz) (hl : l.length = n * sz)
    (hg : ∀ i, i < n → ∀ j, j < sz → ∀ u, (g i j).is hP u → (lget l (i * sz + j)).is ρ hP u) : (Ch.vs T sz l).sat ρ c hP h := by
  obtain ⟨L, hL, hsz, hnc, hcap, hr⟩ := hs
  refine ⟨L, hL, hsz, ?_, hcap, fun h0 => by omega, fun hc => ?_⟩
  · rw [hl]; exact Nat.mul_le_mul_right _ hnc
  · obtain ⟨arr, fr, h1, h2, h3, h4⟩ := hr hc
    have hat : ∀ k, k < n * sz → ∃ u, arr[L.off + k]? = some u ∧ (g (k / sz) (k % sz)).is hP u := fun k hk => by
      have hkk : k / sz * sz + k % sz = k := by rw [Nat.mul_comm]; exact Nat.div_add_mod k sz
      have := h4 (k / sz) (by rw [Nat.div_lt_iff_lt_mul hz]; exact hk) (k % sz) (Nat.mod_lt _ hz)
      rwa [hkk] at this
    have hkk : ∀ k, k / sz * sz + k % sz = k := fun k => by rw [Nat.mul_comm]; exact Nat.div_add_mod k sz
    refine ⟨arr, fr, h1, h2, h3, (List.range (n * sz)).map fun k => (arr[L.off + k]?).getD undef, isL_of (by simp [hl]) fun k hk => ?_, fun k u hk => ?_⟩
    · rw [hl] at hk
      obtain ⟨u, h5, h6⟩ := hat k hk
      have := hg (k / sz) (by rw [Nat.div_lt_iff_lt_mul hz]; exact hk) (k % sz) (Nat.mod_lt _ hz) u h6
      rw [hkk] at this
      rw [List.getD_eq_getElem?_getD, List.getElem?_map, List.getElem?_range hk]
      simp only [Option.map_some, Option.getD_some, h5]
      exact this
    · have hkl : k < n * sz := by
        have := (List.getElem?_eq_some_iff.1 hk).1
        simpa using this
      obtain ⟨u', h5, h6⟩ := hat k hkl
      rw [List.getElem?_map, List.getElem?_range hkl] at hk
      simp only [Option.map_some, h5, Option.getD_some, Option.some.injEq] at hk
      subst hk
      exact ⟨h5, PV.one h6⟩
theorem exF_is {us : List Value} {sz i j : Nat} {hP : HL} {u : Value} (h : (exF us sz i j).is hP u) : u = us.getD (i * sz + j) undef ∧ u.oneCell' = true := by
  obtain ⟨h1, h2⟩ := h
  exact ⟨h1, by rw [h1]; exact h2⟩

section
variable {P : Program} {ty : Ty} {o : Oper} {tm : List SV} {H : List Ch} {s : SV} {rd : List Nat} {wr : List (Nat × Ch)}

/-- In each world the operation may be asked of other values and chunks, of which just as much holds there. -/
theorem at_world (hT : TyOK P ty) (h : ∀ ρ own w (a : Act), (∀ x ∈ o.op.operands, (ev tm x).is ρ (view own 0 w) (a.eval x)) → (∀ c, c ∈ rd ∨ c ∈ wnames wr → (hget H c).sat ρ c (view own 0 w) (view own (c + 3) w)) → (∀ c ∈ newsOf H wr, ρ c = none) →
      ∃ tm' H' p s' rd' wr', (∀ x ∈ o.op.operands, (ev tm' x).is ρ (view own 0 w) (a.eval x)) ∧ (∀ c, c ∈ rd' ∨ c ∈ wnames wr' → (hget H' c).sat ρ c (view own 0 w) (view own (c + 3) w)) ∧ hlen H' = hlen H ∧ wnames wr' = wnames wr ∧
        opS ty o tm' H' = .ok p s' rd' wr' ∧ p ∧
        ∀ ρ' own' w' v, Env.le ρ ρ' → HL.le (view own 0 w) (view own' 0 w') → s'.is ρ' (view own' 0 w') v → (∀ x ∈ wr', x.2.sat ρ' x.1 (view own' 0 w') (view own' (x.1 + 3) w')) →
          s.is ρ' (view own' 0 w') v ∧ ∀ x ∈ wr, x.2.sat ρ' x.1 (view own' 0 w') (view own' (x.1 + 3) w')) : OpOK P o tm H s rd wr := by
  intro ρ own w a K Q hop hsat hn hK
  obtain ⟨tm', H', p, s', rd', wr', h1, h2, h3, h4, h5, h6, h7⟩ := h ρ own w a hop hsat hn
  have hnews : newsOf H' wr' = newsOf H wr := by unfold newsOf; rw [h3, h4]
  refine ops_sound hT h5 h6 ρ own w a K Q h1 h2 (by rw [hnews]; exact hn) fun ρ' own' w' v hst hs hw => ?_
  rw [hnews, h4] at hst
  obtain ⟨h8, h9⟩ := h7 ρ' own' w' v (hst.envLe hn) (hst.sub 0 fun c _ => by omega) hs hw
  exact hK ρ' own' w' v hst h8 h9
end

theorem isL_take {ρ : Env} {hP : HL} : ∀ (n : Nat) {l : List SV} {us : List Value}, SV.isL ρ hP l us → SV.isL ρ hP (l.take n) (us.take n)
  | 0, _, _, _ => by simp only [List.take_zero]; rfl
  | n + 1, [], us, h => by
    have h : us = [] := h
    subst h; rfl
  | n + 1, s :: l, us, ⟨u, r, e, h1, h2⟩ => by subst e; exact ⟨u, r.take n, rfl, h1, isL_take n h2⟩
theorem isL_drop {ρ : Env} {hP : HL} : ∀ (n : Nat) {l : List SV} {us : List Value}, SV.isL ρ hP l us → SV.isL ρ hP (l.drop n) (us.drop n)
  | 0, _, _, h => by simpa using h
  | n + 1, [], us, h => by
    have h : us = [] := h
    subst h; rfl
  | n + 1, s :: l, us, ⟨u, r, e, h1, h2⟩ => by subst e; exact isL_drop n h2
theorem isL_app {ρ : Env} {hP : HL} {l r : List SV} {us vs : List Value} (h1 : SV.isL ρ hP l us) (h2 : SV.isL ρ hP r vs) : SV.isL ρ hP (l ++ r) (us ++ vs) := isL_append h1 h2
theorem isL_mono {ρ ρ' : Env} {hP hP' : HL} (hr : Env.le ρ ρ') (hk : HL.le hP hP') {l : List SV} {us : List Value} (h : SV.isL ρ hP l us) : SV.isL ρ' hP' l us := SV.monoL hr hk l us h
theorem isL_at {ρ : Env} {hP : HL} {l : List SV} {us : List Value} (h : SV.isL ρ hP l us) (k : Nat) : (lget l k).is ρ hP (us.getD k undef) := lget_is k h
end Go.Proofs.Ytladpdndjcgebaa.Kx
