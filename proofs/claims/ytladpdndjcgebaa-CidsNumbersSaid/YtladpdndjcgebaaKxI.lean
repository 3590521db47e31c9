/- The machine's operations are the symbolic machine's (5): maps. -/
import Derived.Test.YtladpdndjcgebaaKxH
namespace Go.Proofs.Ytladpdndjcgebaa.Kx
set_option linter.unusedVariables false
open Go Go.Proofs.Ytladpdndjcgebaa.Sx

theorem liEq_eq : ∀ (a b : List Int), liEq a b = decide (a = b)
  | [], [] => rfl
  | [], _ :: _ => rfl
  | _ :: _, [] => rfl
  | x :: a, y :: b => by
    show ifB (ceq x y) (liEq a b) false = _
    rw [ceq_eq, ifB_eq, liEq_eq a b]
    by_cases h : x = y <;> simp [h]
noncomputable def aset (k : List Int) (v : List PV) : List (List Int × List PV) → List (List Int × List PV)
  | [] => [(k, v)]
  | x :: r => if x.1 = k then (k, v) :: r else x :: aset k v r
noncomputable def adel (k : List Int) : List (List Int × List PV) → List (List Int × List PV)
  | [] => []
  | x :: r => if x.1 = k then adel k r else x :: adel k r
theorem asetK_eq (k : List Int) (v : List PV) : ∀ (l : List (List Int × List PV)) (K : List (List Int × List PV) → EX), asetK k v l K = K (aset k v l)
  | [], _ => rfl
  | x :: r, K => by
    show ifB (liEq x.1 k) (K ((k, v) :: r)) (asetK k v r fun r => K (x :: r)) = _
    rw [liEq_eq, ifB_eq, asetK_eq k v r, aset]
    by_cases h : x.1 = k <;> simp [h]
theorem adelK_eq (k : List Int) : ∀ (l : List (List Int × List PV)) (K : List (List Int × List PV) → EX), adelK k l K = K (adel k l)
  | [], _ => rfl
  | x :: r, K => by
    show ifB (liEq x.1 k) (adelK k r K) (adelK k r fun r => K (x :: r)) = _
    rw [liEq_eq, ifB_eq, adelK_eq k r, adelK_eq k r, adel]
    by_cases h : x.1 = k <;> simp [h]
theorem aget_cons (k : List Int) (x : List Int × List PV) (l : List (List Int × List PV)) : aget k (x :: l) = if x.1 = k then some x.2 else aget k l := by
  show ifB (liEq x.1 k) (some x.2) (aget k l) = _
  rw [liEq_eq, ifB_eq]
  simp
theorem aget_aset (k : List Int) (v : List PV) (k' : List Int) : ∀ l, aget k' (aset k v l) = if k' = k then some v else aget k' l
  | [] => by
    rw [aset, aget_cons]
    by_cases h : k' = k
    · subst h; simp
    · rw [if_neg (fun e : k = k' => h e.symm), if_neg h]
  | x :: r => by
    rw [aset]
    split
    · rename_i hx
      rw [aget_cons, aget_cons]
      by_cases h : k' = k
      · subst h; simp
      · have : ¬ k = k' := fun e => h e.symm
        simp [h, this, hx]
    · rename_i hx
      rw [aget_cons, aget_cons, aget_aset k v k' r]
      by_cases h : k' = k
      · subst h; simp [hx]
      · simp [h]
theorem aget_adel (k : List Int) (k' : List Int) : ∀ l, aget k' (adel k l) = if k' = k then none else aget k' l
  | [] => by
    have : aget k' (adel k []) = none := rfl
    rw [this]
    split <;> rfl
  | x :: r => by
    rw [adel]
    split
    · rename_i hx
      rw [aget_adel k k' r, aget_cons]
      by_cases h : k' = k
      · subst h; simp
      · have : ¬ x.1 = k' := fun e => h (e.symm.trans hx)
        simp [h, this]
    · rename_i hx
      rw [aget_cons, aget_cons, aget_adel k k' r]
      by_cases h : k' = k
      · subst h; simp [hx]
      · simp [h]
theorem keyLK_ret {k : IntKind} {s : SV} {H : CH} : ∀ {l : List SV} {K : List Int → EX}, keyLK k l K = .ret s H → ∃ r, keyL k l = some r ∧ K r = .ret s H
  | [], K, h => ⟨[], rfl, h⟩
  | x :: l, K, h => by
    have h : onI x (fun j n => ifB (kEq j k) (keyLK k l fun r => K (n :: r)) (.bad "key: kinds")) = .ret s H := h
    obtain ⟨j, n, hx, h1⟩ := onI_ret h
    obtain ⟨h2, h3⟩ := ifB_ret h1
    obtain rfl := kEq_eq h2
    obtain ⟨r, h4, h5⟩ := keyLK_ret h3
    exact ⟨n :: r, by subst hx; simp [keyL, h4], h5⟩
theorem keySK_ret {k : MK} {x s : SV} {H : CH} {K : List Int → EX} (h : keySK k x K = .ret s H) : ∃ r, keyS k x = some r ∧ K r = .ret s H := by
  unfold keySK at h
  rw [ifB_eq] at h
  split at h
  · rename_i ha
    obtain ⟨l, hx, h1⟩ := onAg_ret h
    obtain ⟨h2, h3⟩ := ifB_ret h1
    obtain ⟨r, h4, h5⟩ := keyLK_ret h3
    exact ⟨r, by subst hx; simp [keyS, ha, lenB_eq h2, h4], h5⟩
  · rename_i ha
    obtain ⟨j, n, hx, h1⟩ := onI_ret h
    obtain ⟨h2, h3⟩ := ifB_ret h1
    obtain rfl := kEq_eq h2
    exact ⟨[n], by subst hx; simp [keyS, ha], h3⟩
theorem bEq_eq {a b : Bool} (h : bEq a b = true) : a = b := by
  cases a <;> cases b <;> first | rfl | cases h
theorem mkEq_eq {a b : MK} (h : mkEq a b = true) : a = b := by
  unfold mkEq at h
  simp only [ifB_eq] at h
  split at h
  · split at h
    · split at h
      · rename_i h1 h2 h3
        cases a; cases b
        simp only at h1 h2 h3 h
        rw [kEq_eq h1, bEq_eq h2, nbeq_eq h3, bEq_eq h]
      · cases h
    · cases h
  · cases h
section
variable {P : Program} {ty : Ty} {o : Oper} {nt : Nat}
theorem mkB_some {T E : Nat} {mk : MK} (h : mkB ty T = some ⟨E, mk⟩) : ∃ K, (ty T).k = .map K E ∧ mkOf ty K E = some mk := by
  unfold mkB at h
  split at h
  · rename_i K E' hk
    split at h
    · rename_i mk' hm
      simp only [Option.some.injEq, MB.of.injEq] at h
      obtain ⟨rfl, rfl⟩ := h
      exact ⟨K, hk, hm⟩
    · cases h
  · cases h
theorem mkOf_some (hT : TyOK P ty) {K E : Nat} {mk : MK} (h : mkOf ty K E = some mk) : (ty E).k.isOther = false ∧ mk.va = (ty E).agg := by
  obtain ⟨_, h2, h3⟩ := keyT_of hT h
  exact ⟨h2, h3⟩
theorem mapK_ret {mk : MK} {H : CH} {x k s : SV} {H' : CH} {f : Nat → Nat → List (List Int × List PV) → List (Nat × List Int) → List Int → EX} (h : mapK mk H x k f = .ret s H') :
    ∃ C n l sts key, x = .m C ∧ keyS mk k = some key ∧ hg H C = .map mk n l sts ∧ f C n l sts key = .ret s H' := by
  obtain ⟨key, h1, h2⟩ := keySK_ret h
  obtain ⟨C, hx, h3⟩ := onM_ret h2
  rw [hgK_eq] at h3
  obtain ⟨mk', n, l, sts, hd, h4⟩ := onMap_ret h3
  obtain ⟨h5, h6⟩ := ifB_ret h4
  obtain rfl := mkEq_eq h5
  exact ⟨C, n, l, sts, key, hx, h1, hd, h6⟩
theorem mapAt_eq {T K E C n : Nat} {mk : MK} {H : CH} {x k : SV} {l : List (List Int × List PV)} {sts : List (Nat × List Int)} {key : List Int} (hk : (ty T).k = .map K E) (hm : mkOf ty K E = some mk) (hx : x = .m C) (hkey : keyS mk k = some key) (hd : hg H C = .map mk n l sts) :
    mapAt ty (hl H) T x k = some (C, E, mk, n, (fun key => aget key l), sts, key) := by
  subst hx
  simp only [mapAt, hk, hm, hkey, hget_hl, hd, den, if_true]
theorem pvK_ret {s : SV} {H : CH} : ∀ {l : List SV} {K : List PV → EX}, pvK l K = .ret s H → ∃ ps, consts l = some ps ∧ K ps = .ret s H
  | [], K, h => ⟨[], rfl, h⟩
  | x :: l, K, h => by
    have h : onPV x (fun p => pvK l fun r => K (p :: r)) = .ret s H := h
    obtain ⟨p, hx, h1⟩ := onPV_ret h
    obtain ⟨ps, h2, h3⟩ := pvK_ret h1
    exact ⟨p :: ps, by subst hx; simp [consts, h2], h3⟩
theorem plainK_ret {ag : Bool} {v s : SV} {H : CH} {K : List PV → EX} (h : plainK ag v K = .ret s H) : ∃ ps, consts (cellsOf v) = some ps ∧ opMapUpdate.isA v = ag ∧ K ps = .ret s H := by
  unfold plainK at h
  rw [ifB_eq] at h
  split at h
  · rename_i ha
    obtain ⟨l, hx, h1⟩ := onAg_ret h
    obtain ⟨ps, h2, h3⟩ := pvK_ret h1
    exact ⟨ps, by subst hx; exact h2, by subst hx; rw [ha]; rfl, h3⟩
  · rename_i ha
    obtain ⟨p, hx, h1⟩ := onPV_ret h
    exact ⟨[p], by subst hx; rfl, by subst hx; simp only [Bool.not_eq_true] at ha; rw [ha]; rfl, h1⟩
theorem packO_ret {ti : TI} {K : SV → EX} {l : List SV} {s : SV} {H : CH} (h : packO' ti.agg K l = .ret s H) : K (pack ti l) = .ret s H := by
  unfold packO' at h
  unfold pack
  rw [ifB_eq] at h
  cases ha : ti.agg with
  | true => simpa [ha] using h
  | false =>
    simp only [ha, Bool.false_eq_true, if_false] at h
    split at h
    · exact h
    · cases h
theorem packO_eq (ti : TI) (o : Option (List PV)) : packO ti o = pack ti (mapC (keepV ti.z o)) := by cases o <;> rfl
theorem isSome_eq (o : Option (List PV)) : isSome' o = o.isSome := by cases o <;> rfl
theorem ok_lookup {T : Nat} {ok : Bool} {x k : Operand} (hT : TyOK P ty) (ho : o.op = .lookup T x k ok) : OBOK P o nt (oLookup nt ty T ok x k).g := by
  intro K t H s H' hn h
  unfold oLookup at h
  split at h
  · rename_i E mk hmb
    obtain ⟨KT, hk, hm⟩ := mkB_some hmb
    have h : gvK nt x t (fun x => gvK nt k t fun k => mapK mk H x k fun C _ l _ key => lkK (ty E) ok K C (aget key l)) = .ret s H' := h
    rw [gvK_eq, gvK_eq] at h
    obtain ⟨C, n, l, sts, key, hx, hkey, hd, h1⟩ := mapK_ret h
    have h2 := packO_ret h1
    have hat := mapAt_eq hk hm hx hkey hd
    rw [← packO_eq, ifB_eq, isSome_eq] at h2
    cases ok with
    | true =>
      rw [if_pos rfl] at h2
      exact via (p := True) (wr := []) hT (by simp only [opS, ho, opLookup, hat]; rfl) trivial hn h2
    | false =>
      rw [if_neg (by simp)] at h2
      exact via (p := True) (wr := []) hT (by simp only [opS, ho, opLookup, hat]; rfl) trivial hn h2
  · cases h
theorem acount_eq (n : Nat) (key : List Int) (l : List (List Int × List PV)) : acount n (aget key l) = mcount n (fun key => aget key l) key := by
  unfold acount mcount
  simp only
  cases aget key l <;> rfl
theorem mset_eq (key : List Int) (v : List PV) (l : List (List Int × List PV)) : (fun k => aget k (aset key v l)) = Sx.mset (fun k => aget k l) key v := by
  funext k
  rw [aget_aset]
  rfl
theorem mdel_eq (key : List Int) (l : List (List Int × List PV)) : (fun k => aget k (adel key l)) = mdel (fun k => aget k l) key := by
  funext k
  rw [aget_adel]
  rfl
theorem ok_mapUpdate {T : Nat} {x k e : Operand} (hT : TyOK P ty) (ho : o.op = .mapUpdate T x k e ∨ o.op = .insert T x k e) : OBOK P o nt (oMapUpdate nt ty T x k e).g := by
  intro K t H s H' hn h
  unfold oMapUpdate at h
  split at h
  · rename_i E mk hmb
    obtain ⟨KT, hk, hm⟩ := mkB_some hmb
    obtain ⟨hoth, hva⟩ := mkOf_some hT hm
    have h : gvK nt x t (fun x => gvK nt k t fun k => gvK nt e t fun e => mapK mk H x k fun C n l sts key => fits (ty E).sz (ty E).agg e (plainK (ty E).agg e fun v => forceN (acount n (aget key l)) fun m => asetK key v l fun l => K undefS [] [(C, .map mk m l sts)])) = .ret s H' := h
    rw [gvK_eq, gvK_eq, gvK_eq] at h
    obtain ⟨C, n, l, sts, key, hx, hkey, hd, h1⟩ := mapK_ret h
    obtain ⟨h2, _, h3, _, _⟩ := fits_ret (by cases ha : (ty E).agg with
      | true => exact .inl rfl
      | false => exact .inr (ty_sz hT hoth ha)) h1
    obtain ⟨ps, h4, h5, h6⟩ := plainK_ret h3
    rw [forceN_eq, asetK_eq] at h6
    have hat := mapAt_eq hk hm hx hkey hd
    have hC := hg_lt hd (by simp)
    refine via (p := True) (wr := [(C, .map mk (acount n (aget key l)) (aset key ps l) sts)]) hT ?_ trivial ⟨by omega, by omega, by rw [if_pos hC]; exact hn⟩ h6
    rcases ho with ho | ho
    · simp only [opS, ho, opMapUpdate, hat, h4, h2, h5, and_self, if_true, denW, List.map_cons, List.map_nil, den, mset_eq, acount_eq]
    · simp only [opS, ho, opMapUpdate, hat, h4, h2, h5, and_self, if_true, denW, List.map_cons, List.map_nil, den, mset_eq, acount_eq]
  · cases h
theorem ok_mapEntry {T : Nat} {x k : Operand} (hT : TyOK P ty) (ho : o.op = .mapEntry T x k) : OBOK P o nt (oMapEntry nt ty T x k).g := by
  intro K t H s H' hn h
  unfold oMapEntry at h
  split at h
  · rename_i E mk hmb
    obtain ⟨KT, hk, hm⟩ := mkB_some hmb
    have h : gvK nt x t (fun x => gvK nt k t fun k => onNew H fun c => mapK mk H x k fun C n l sts key => forceN (acount n (aget key l)) fun m => asetK key (keepV (ty E).z (aget key l)) l fun l' => packO' (ty E).agg (fun v => K (.t [v, .st c]) [] [(C, .map mk m l' ((c, key) :: sts)), (c, .none)]) (mapC (keepV (ty E).z (aget key l)))) = .ret s H' := h
    rw [gvK_eq, gvK_eq] at h
    obtain ⟨hlt, h0⟩ := onNew_ret h
    obtain ⟨C, n, l, sts, key, hx, hkey, hd, h1⟩ := mapK_ret h0
    rw [forceN_eq, asetK_eq] at h1
    have h2 := packO_ret h1
    rw [← packO_eq] at h2
    have hat := mapAt_eq hk hm hx hkey hd
    have hC := hg_lt hd (by simp)
    refine via (p := True) (wr := [(C, .map mk (acount n (aget key l)) (aset key (keepV (ty E).z (aget key l)) l) ((H.n, key) :: sts)), (H.n, .none)]) hT ?_ trivial ⟨by omega, by omega, by rw [if_pos hC]; exact ⟨Nat.le_refl _, hlt, by rw [if_neg (by omega)]; show H.n + 1 ≤ 262143; omega⟩⟩ h2
    have hkeep : keepV (ty E).z (aget key l) = mkeep (fun key => aget key l) key (ty E).z := by
      unfold keepV mkeep
      simp only
      cases aget key l <;> rfl
    simp only [opS, ho, opMapEntry, hat, denW, List.map_cons, List.map_nil, den, mset_eq, acount_eq, hlen_hl, hkeep]
  · cases h
theorem stampK_ret {d : Nat} {k : List Int → EX} {s : SV} {H : CH} : ∀ {l : List (Nat × List Int)}, stampK d k l = .ret s H → ∃ key, stampOf l d = some key ∧ k key = .ret s H
  | [], h => by cases h
  | (c, key) :: l, h => by
    have h : ifB (Nat.beq c d) (k key) (stampK d k l) = .ret s H := h
    rw [ifB_eq] at h
    split at h
    · rename_i hc
      exact ⟨key, by simp [stampOf, nbeq_eq hc], h⟩
    · rename_i hc
      obtain ⟨key', h1, h2⟩ := stampK_ret h
      refine ⟨key', ?_, h2⟩
      rw [Nat.beq_eq] at hc
      simp [stampOf, hc, h1]
theorem ok_entryStore {T : Nat} {x stamp e : Operand} (hT : TyOK P ty) (ho : o.op = .entryStore T x stamp e) : OBOK P o nt (oEntryStore nt ty T x stamp e).g := by
  intro K t H s H' hn h
  unfold oEntryStore at h
  split at h
  · rename_i E mk hmb
    obtain ⟨KT, hk, hm⟩ := mkB_some hmb
    obtain ⟨hoth, hva⟩ := mkOf_some hT hm
    have h : gvK nt x t (fun x => gvK nt stamp t fun d => gvK nt e t fun e => onM x fun C => onSt d fun d => hgK H C fun c => onMap c fun mk' n l sts => ifB (mkEq mk' mk) (stampK d (fun key => fits (ty E).sz (ty E).agg e (plainK (ty E).agg e fun v => asetK key v l fun l => K undefS [] [(C, .map mk n l sts)])) sts) (.bad "entryStore: kind")) = .ret s H' := h
    rw [gvK_eq, gvK_eq, gvK_eq] at h
    obtain ⟨C, hx, h1⟩ := onM_ret h
    obtain ⟨d, hst, h2⟩ := onSt_ret h1
    rw [hgK_eq] at h2
    obtain ⟨mk', n, l, sts, hd, h3⟩ := onMap_ret h2
    obtain ⟨h4, h5⟩ := ifB_ret h3
    obtain rfl := mkEq_eq h4
    obtain ⟨key, h6, h7⟩ := stampK_ret h5
    obtain ⟨_, _, h8, _, _⟩ := fits_ret (by cases ha : (ty E).agg with
      | true => exact .inl rfl
      | false => exact .inr (ty_sz hT hoth ha)) h7
    obtain ⟨ps, h9, h10, h11⟩ := plainK_ret h8
    rw [asetK_eq] at h11
    have hC := hg_lt hd (by simp)
    refine via (p := True) (wr := [(C, .map mk' n (aset key ps l) sts)]) hT ?_ trivial ⟨by omega, by omega, by rw [if_pos hC]; exact hn⟩ h11
    simp only [opS, ho, opEntryStore, hk, hx, hst, h9, hget_hl, hd, den, h6, h10, hva, if_true, denW, List.map_cons, List.map_nil, mset_eq]
  · cases h
theorem ok_delete {T : Nat} {x k : Operand} {c : Call} {ats : List Nat} (hT : TyOK P ty) (ho : o.op = .call c) (hc : c.callee = .builtin .delete) (ha : c.args.toList = [x, k]) (hat' : c.argTypes.toList = T :: ats) : OBOK P o nt (oDelete nt ty T x k).g := by
  intro K t H s H' hn h
  unfold oDelete at h
  split at h
  · rename_i E mk hmb
    obtain ⟨KT, hk, hm⟩ := mkB_some hmb
    have h : gvK nt x t (fun x => gvK nt k t fun k => mapK mk H x k fun C n l _ key => forceN (dcount n (aget key l)) fun m => adelK key l fun l => K (.t []) [] [(C, .map mk m l [])]) = .ret s H' := h
    rw [gvK_eq, gvK_eq] at h
    obtain ⟨C, n, l, sts, key, hx, hkey, hd, h1⟩ := mapK_ret h
    rw [forceN_eq, adelK_eq] at h1
    have hat := mapAt_eq hk hm hx hkey hd
    have hC := hg_lt hd (by simp)
    have hdc : dcount n (aget key l) = mdcount n (fun key => aget key l) key := by
      unfold dcount mdcount
      simp only
      cases aget key l <;> rfl
    refine via (p := True) (wr := [(C, .map mk (dcount n (aget key l)) (adel key l) [])]) hT ?_ trivial ⟨by omega, by omega, by rw [if_pos hC]; exact hn⟩ h1
    simp only [opS, ho, opCall, hc, ha, hat', evs, opDelete, hat, denW, List.map_cons, List.map_nil, den, mdel_eq, hdc]
  · cases h
theorem ok_makeMap {T : Nat} (hT : TyOK P ty) (ho : o.op = .makeMap T none) : OBOK P o nt (oMakeMap ty T).g := by
  intro K t H s H' hn h
  unfold oMakeMap at h
  split at h
  · rename_i E mk hmb
    obtain ⟨KT, hk, hm⟩ := mkB_some hmb
    obtain ⟨hlt, h0⟩ := onNew_ret h
    refine via (p := True) (wr := [(H.n, .map mk 0 [] [])]) hT ?_ trivial ⟨Nat.le_refl _, hlt, by rw [if_neg (by omega)]; show H.n + 1 ≤ 262143; omega⟩ h0
    simp only [opS, ho, opMakeMap, hk, hm, denW, List.map_cons, List.map_nil, den, hlen_hl]
    rfl
  · cases h
end
end Go.Proofs.Ytladpdndjcgebaa.Kx
