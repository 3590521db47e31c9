/- The operations of the symbolic machine are sound (13): entries of maps; a key taken out. -/
import Derived.Test.YtladpdndjcgebaaSxR
namespace Go.Proofs.Ytladpdndjcgebaa.Sx
set_option linter.unusedVariables false
open Go

section
variable {P : Program} {ty : Ty} {o : Oper} {tm : List SV} {H : List Ch} {p : Prop} {s : SV} {rd : List Nat} {wr : List (Nat × Ch)}

theorem val_is {ρ : Env} {hP : HL} {k : MK} {x : SV} {ps : List PV} {v : Value} (hps : consts (cellsOf x) = some ps) (ha : opMapUpdate.isA x = k.va) (h3 : x.is ρ hP v) : ValIs hP k ps v := by
  cases x with
  | a l =>
    obtain ⟨vs, he, hvs⟩ := h3
    subst he
    refine ⟨fun _ => ⟨vs, rfl⟩, fun hv => ?_, consts_is hps hvs⟩
    rw [hv] at ha
    simp [opMapUpdate.isA] at ha
  | c q =>
    have h1' := PV.one (hP := hP) h3
    refine ⟨fun hv => ?_, fun _ => cells_one h1', ?_⟩
    · rw [hv] at ha
      simp [opMapUpdate.isA] at ha
    · rw [cells_one h1']
      simp only [cellsOf, consts, Option.some.injEq] at hps
      subst hps
      exact ⟨v, [], rfl, h3, rfl⟩
  | _ => simp [cellsOf, consts] at hps

theorem sound_mapEntry {T : Nat} {x y : Operand} (hT : TyOK P ty) (ho : o.op = .mapEntry T x y) (h : opMapEntry ty H T (ev tm x) (ev tm y) = .ok p s rd wr) : OpOK P o tm H s rd wr := by
  have hopx : x ∈ o.op.operands := by simp [ho, Op.operands]
  have hopy : y ∈ o.op.operands := by simp [ho, Op.operands]
  unfold opMapEntry at h
  split at h
  case h_2 => cases h
  rename_i C E mk n g sts key hma
  cases h
  obtain ⟨⟨K, hu, hK⟩, ⟨hE, hva⟩, hx, hl, hkey⟩ := mapAt_of (P := P) hT hma
  refine OpOK.step fun ρ own w a hop hs hn => ?_
  have hnews := news_two (H := H) (C := C) (by rw [hl]; simp) (.map mk (mcount n g key) (mset g key (mkeep g key (ty E).z)) ((hlen H, key) :: sts)) .none
  rw [hnews] at hn ⊢
  have h1 := hop x hopx; have h2 := hop y hopy
  rw [hx] at h1
  obtain ⟨L, hL, hev⟩ := h1
  obtain ⟨hy, hkl⟩ := keyS_is hK.one hkey h2
  have hsat := hs C (.inr (by simp [wnames]))
  rw [hl] at hsat
  obtain ⟨L', es, cl, hL', hb, hm, hst⟩ := hsat
  obtain rfl : L = L' := by rw [hL] at hL'; simpa using hL'
  have hgo := getMap (P := P) (view_heap hb)
  have hck := hK.check false key w hkl
  have key2 : ∃ es' cl' v born, (execOp a.eval o).run P w = .ok (.value (.tuple #[v, .int .i64 (born : Nat)])) { w with heap := w.heap.setIfInBounds L.blk (.map es' cl') } ∧ (packO (ty E) (g key)).is ρ (view own 0 w) v ∧
      MapIs (view own 0 w) mk (mcount n g key) (mset g key (mkeep g key (ty E).z)) es'.toList cl' ∧ (∀ e ∈ es.toList, ∃ e' ∈ es'.toList, e'.born = e.born ∧ e'.key = e.key) ∧ ∃ e' ∈ es'.toList, e'.born = born ∧ e'.key = keyVal mk key := by
    rcases map_found hm hK hkl w with ⟨hf, hg, hno⟩ | ⟨j, e, ps', hf, hej, hek, hg, hps⟩
    · obtain ⟨i, z, hi, _, _, _, _, hz, hzr⟩ := (hT E hE).info_run (ty := ty) w
      have hval : ValIs (view own 0 w) mk (ty E).z z := ⟨fun h => hz.2.2.1 (by rw [← hva]; exact h), fun h => hz.2.2.2 (by rw [← hva]; exact h), hz.1 _⟩
      refine ⟨es.push { key := keyVal mk key, val := z, born := cl }, cl + 1, z, cl, ?_, ?_, ?_, fun e he => ⟨e, by simp; left; simpa using he, rfl, rfl⟩, ⟨{ key := keyVal mk key, val := z, born := cl }, by simp, rfl, rfl⟩⟩
      · simp only [execOp, ho, Instr.mapEntry, Sem.run_bind, run_underlying hu, Result.andThen_ok, hev, hy, hgo, hck, hf, hzr]
        rw [setMap _ (view_heap hb)]
        simp [goInt]
      · rw [hg]; exact pack_val (hz.1 _) hz.2.2.1 hz.2.2.2
      · have := hm.put hno hkl hval
        simp only [mcount, mkeep, hg]
        simpa using this
    · have hi : es[j]? = some e := by rw [← Array.getElem?_toList]; exact hej
      have hv := hm.vals e (List.mem_of_getElem? hej)
      have hval : ValIs (view own 0 w) mk ps' e.val := ⟨hv.1, hv.2, hps⟩
      refine ⟨es.modify j fun e => { e with key := keyVal mk key }, cl, e.val, e.born, ?_, ?_, ?_, fun d hd => ?_, ?_⟩
      · simp only [execOp, ho, Instr.mapEntry, Sem.run_bind, run_underlying hu, Result.andThen_ok, hev, hy, hgo, hck, hf, hi, Option.map_some, Option.getD_some, hek, stays_run]
        rw [setMap _ (view_heap hb)]
        simp [goInt]
      · rw [hg]; exact pack_val hps (fun h => hv.1 (by rw [hva]; exact h)) (fun h => hv.2 (by rw [hva]; exact h))
      · have := hm.upd hej hek hkl hval
        rw [modify_list hej]
        simp only [mcount, mkeep, hg]
        have he2 : ({ e with key := keyVal mk key } : MapEntry) = { e with val := e.val } := by rw [← hek]
        rw [he2]
        exact this
      · rw [modify_list hej]
        obtain ⟨q, hq, rfl⟩ := List.mem_iff_getElem.1 hd
        by_cases hjq : j = q
        · subst hjq
          have : es.toList[j] = e := by rw [List.getElem?_eq_getElem hq] at hej; simpa using hej
          exact ⟨_, List.mem_set hq _, by rw [this], by rw [this, hek]⟩
        · exact ⟨es.toList[q], by rw [List.mem_iff_getElem?]; exact ⟨q, by rw [List.getElem?_set_ne hjq, List.getElem?_eq_getElem hq]⟩, rfl, rfl⟩
      · rw [modify_list hej]
        exact ⟨_, List.mem_set (List.getElem?_eq_some_iff.1 hej).1 _, rfl, rfl⟩
  obtain ⟨es', cl', v, born, hrun, hv, hm', hst', e2, he2, hb2, hk2⟩ := key2
  obtain ⟨hstp, hvw⟩ := Stp.setObj (ρ := ρ) (ρ' := ρ.set (hlen H) ⟨born, 0, 0, 0⟩) (own := own) (w := w) (news := [hlen H]) (wrs := wnames [(C, Ch.map mk (mcount n g key) (mset g key (mkeep g key (ty E).z)) ((hlen H, key) :: sts)), (hlen H, .none)])
    (w' := { w with heap := w.heap.setIfInBounds L.blk (.map es' cl') }) (fun c hc => by simp only [List.mem_singleton] at hc; simp [Env.set, hc]) (by simp [wnames]) (view_own hb) (lt_of_some (view_heap hb)) rfl rfl rfl rfl
  have h0 := hstp.sub 0 (by omega)
  have hle := hstp.envLe hn
  refine ⟨_, _, _, _, .inl hrun, hstp, ⟨_, rfl, ⟨v, _, rfl, SV.mono hle h0 _ _ hv, ⟨.int .i64 (born : Nat), [], rfl, ⟨⟨born, 0, 0, 0⟩, by simp [Env.set], rfl⟩, rfl⟩⟩⟩, fun q hq => ?_⟩
  simp only [List.mem_cons, List.not_mem_nil, or_false] at hq
  rcases hq with rfl | rfl
  · refine ⟨L, es', cl', hle _ _ hL, hvw, hm'.mono h0, fun st hst2 => ?_⟩
    rcases List.mem_cons.1 hst2 with rfl | hst2
    · exact ⟨⟨born, 0, 0, 0⟩, by simp [Env.set], hkl, e2, he2, hb2, hk2⟩
    · obtain ⟨l, h4, h5, e, he, h6, h7⟩ := hst st hst2
      obtain ⟨e', he', h8, h9⟩ := hst' e he
      exact ⟨l, hle _ _ h4, h5, e', he', h8.trans h6, h9.trans h7⟩
  · trivial

theorem stampOf_mem : ∀ {sts : List (Nat × List Int)} {d : Nat} {key : List Int}, stampOf sts d = some key → (d, key) ∈ sts
  | [], _, _, h => by simp [stampOf] at h
  | (c, k) :: l, d, key, h => by
    simp only [stampOf] at h
    split at h
    · rename_i hc
      simp only [Option.some.injEq] at h
      subst h; subst hc
      simp
    · exact List.mem_cons_of_mem _ (stampOf_mem h)

theorem sound_entryStore {T : Nat} {x y z : Operand} (ho : o.op = .entryStore T x y z) (h : opEntryStore ty H T (ev tm x) (ev tm y) (ev tm z) = .ok p s rd wr) : OpOK P o tm H s rd wr := by
  have hopx : x ∈ o.op.operands := by simp [ho, Op.operands]
  have hopy : y ∈ o.op.operands := by simp [ho, Op.operands]
  have hopz : z ∈ o.op.operands := by simp [ho, Op.operands]
  unfold opEntryStore at h
  split at h
  case h_2 => cases h
  split at h
  case h_2 => cases h
  rename_i C d ps hx hy hps
  split at h
  case h_2 => cases h
  rename_i mk n g sts hl
  split at h
  case h_2 => cases h
  rename_i key hkey
  split at h
  case isFalse => cases h
  rename_i hisA
  cases h
  refine OpOK.step fun ρ own w a hop hs hn => ?_
  rw [news_one (by rw [hl]; simp)]
  have h1 := hop x hopx; have h2 := hop y hopy; have h3 := hop z hopz
  rw [hx] at h1; rw [hy] at h2
  obtain ⟨L, hL, hev⟩ := h1
  obtain ⟨D, hD, hdv⟩ := h2
  have hsat := hs C (.inr (by simp [wnames]))
  rw [hl] at hsat
  obtain ⟨L', es, cl, hL', hb, hm, hst⟩ := hsat
  obtain rfl : L = L' := by rw [hL] at hL'; simpa using hL'
  have hgo := getMap (P := P) (view_heap hb)
  have hval : ValIs (view own 0 w) mk ps (a.eval z) := val_is hps hisA h3
  obtain ⟨D', hD', hkl, e, he, heb, hek⟩ := hst _ (stampOf_mem hkey)
  obtain rfl : D = D' := by rw [hD] at hD'; simpa using hD'
  have hfi : ∃ i, es.findIdx? (fun e => (e.born : Int) == (D.blk : Int)) = some i ∧ es.toList[i]? = some e := by
    have hex : ∃ i, es.findIdx? (fun e => (e.born : Int) == (D.blk : Int)) = some i := by
      cases hc : es.findIdx? (fun e => (e.born : Int) == (D.blk : Int)) with
      | some i => exact ⟨i, rfl⟩
      | none =>
        rw [Array.findIdx?_eq_none_iff] at hc
        have := hc e (by simpa using he)
        rw [heb] at this
        simp at this
    obtain ⟨i, hi⟩ := hex
    refine ⟨i, hi, ?_⟩
    rw [Array.findIdx?_eq_some_iff_getElem] at hi
    obtain ⟨hlt, hbi, _⟩ := hi
    have hbi : es[i].born = D.blk := by
      have := eq_of_beq hbi
      omega
    obtain ⟨q, hq, hqe⟩ := List.mem_iff_getElem.1 he
    have hlt' : i < es.toList.length := by simpa using hlt
    have hiq : i = q := by
      rcases Nat.lt_trichotomy i q with hlt2 | hE | hgt
      · have := List.pairwise_iff_getElem.1 hm.born i q hlt' hq hlt2
        rw [hqe, heb] at this
        exact (this (by simpa using hbi)).elim
      · exact hE
      · have := List.pairwise_iff_getElem.1 hm.born q i hq hlt' hgt
        rw [hqe, heb] at this
        exact (this (by simpa using hbi.symm)).elim
    subst hiq
    rw [List.getElem?_eq_getElem hq, hqe]
  obtain ⟨i, hfi, hi⟩ := hfi
  have hrun : (execOp a.eval o).run P w = .ok .skip { w with heap := w.heap.setIfInBounds L.blk (.map (es.modify i fun e => { e with val := a.eval z }) cl) } := by
    simp only [execOp, ho, Instr.entryStore, Sem.run_bind, hev, hgo, Result.andThen_ok, hdv, asInt, asIntOf, Sem.run_pure, hfi, setMap _ (view_heap hb)]
  obtain ⟨hstp, hvw⟩ := Stp.setObj (ρ := ρ) (ρ' := ρ) (own := own) (w := w) (news := []) (wrs := wnames [(C, Ch.map mk n (mset g key ps) sts)])
    (w' := { w with heap := w.heap.setIfInBounds L.blk (.map (es.modify i fun e => { e with val := a.eval z }) cl) }) (fun _ _ => rfl) (by simp [wnames]) (view_own hb) (lt_of_some (view_heap hb)) rfl rfl rfl rfl
  have h0 := hstp.sub 0 (by omega)
  refine ⟨undef, _, ρ, own, .inr ⟨hrun, rfl⟩, hstp, ⟨#[], rfl, rfl⟩, fun q hq => ?_⟩
  simp only [List.mem_singleton] at hq
  subst hq
  refine ⟨L, _, cl, hL, hvw, MapIs.mono h0 ?_, fun st hst2 => ?_⟩
  · rw [modify_list hi]
    exact hm.upd hi hek hkl hval
  · obtain ⟨l, h4, h5, e', he', h6, h7⟩ := hst st hst2
    rw [modify_list hi]
    obtain ⟨q, hq, rfl⟩ := List.mem_iff_getElem.1 he'
    by_cases hjq : i = q
    · subst hjq
      have : es.toList[i] = e := by rw [List.getElem?_eq_getElem hq] at hi; simpa using hi
      exact ⟨l, h4, h5, _, List.mem_set hq _, by rw [← h6, this], by rw [← h7, this]⟩
    · exact ⟨l, h4, h5, es.toList[q], by rw [List.mem_iff_getElem?]; exact ⟨q, by rw [List.getElem?_set_ne hjq, List.getElem?_eq_getElem hq]⟩, h6, h7⟩

theorem MapIs.del {hP : HL} {k : MK} {n : Nat} {g : List Int → Option (List PV)} {L : List MapEntry} {cl i : Nat} (hm : MapIs hP k n g L cl) {e : MapEntry} (hi : L[i]? = some e) {key : List Int} (hk : e.key = keyVal k key) (hl : key.length = k.ks) :
    MapIs hP k (n - 1) (mdel g key) (L.eraseIdx i) cl := by
  have hlt : i < L.length := (List.getElem?_eq_some_iff.1 hi).1
  have hsub : ∀ x ∈ L.eraseIdx i, x ∈ L := fun x hx => (List.eraseIdx_sublist L i).subset hx
  have hkept : ∀ x ∈ L, x.key ≠ keyVal k key → x ∈ L.eraseIdx i := fun x hx hne => by
    obtain ⟨q, hq, rfl⟩ := List.mem_iff_getElem.1 hx
    have hne2 : q ≠ i := by
      rintro rfl
      have : L[q] = e := by rw [List.getElem?_eq_getElem hq] at hi; simpa using hi
      rw [this] at hne
      exact hne hk
    rw [List.mem_eraseIdx_iff_getElem]
    exact ⟨q, hq, hne2, rfl⟩
  refine ⟨hm.one, by rw [List.length_eraseIdx_of_lt hlt, hm.size], fun x hx => hm.keyed x (hsub x hx), hm.uniq.sublist (List.eraseIdx_sublist L i), hm.born.sublist (List.eraseIdx_sublist L i), fun x hx => hm.clock x (hsub x hx), fun x hx => hm.vals x (hsub x hx), fun l ps hl' hg => ?_, fun l hl' hg x hx => ?_⟩
  · unfold mdel at hg
    split at hg
    · cases hg
    · rename_i hne
      obtain ⟨x, hx, hxk, hxp⟩ := hm.some_ l ps hl' hg
      refine ⟨x, hkept x hx ?_, hxk, hxp⟩
      rw [hxk]
      exact fun h => hne (keyVal_inj hm.one hl' hl h)
  · unfold mdel at hg
    split at hg
    · rename_i he
      subst he
      intro hxk
      obtain ⟨q, hq, hqi, rfl⟩ := List.mem_eraseIdx_iff_getElem.1 hx
      have hLi : L[i] = e := by rw [List.getElem?_eq_getElem hlt] at hi; simpa using hi
      rcases Nat.lt_trichotomy i q with h1 | h1 | h1
      · have := List.pairwise_iff_getElem.1 hm.uniq i q hlt hq h1
        rw [hLi, hk, hxk] at this
        exact this rfl
      · exact hqi h1.symm
      · have := List.pairwise_iff_getElem.1 hm.uniq q i hq hlt h1
        rw [hLi, hk, hxk] at this
        exact this rfl
    · exact hm.none_ l hl' hg x (hsub x hx)

theorem MapIs.del_no {hP : HL} {k : MK} {n : Nat} {g : List Int → Option (List PV)} {L : List MapEntry} {cl : Nat} (hm : MapIs hP k n g L cl) {key : List Int} (hno : ∀ e ∈ L, e.key ≠ keyVal k key) : MapIs hP k n (mdel g key) L cl :=
  ⟨hm.one, hm.size, hm.keyed, hm.uniq, hm.born, hm.clock, hm.vals, fun l ps hl hg => by
      unfold mdel at hg
      split at hg
      · cases hg
      · exact hm.some_ l ps hl hg, fun l hl hg x hx => by
      unfold mdel at hg
      split at hg
      · rename_i he; subst he; exact hno x hx
      · exact hm.none_ l hl hg x hx⟩

theorem sound_delete {T : Nat} {x y : Operand} {c : Call} {ats : List Nat} (hT : TyOK P ty) (ho : o.op = .call c) (hc : c.callee = .builtin .delete) (ha : c.args.toList = [x, y]) (hat : c.argTypes.toList = T :: ats)
    (h : opDelete ty H T (ev tm x) (ev tm y) = .ok p s rd wr) : OpOK P o tm H s rd wr := by
  have hopx : x ∈ o.op.operands := by simp [ho, Op.operands, Call.operands, hc, ← Array.mem_toList_iff, ha]
  have hopy : y ∈ o.op.operands := by simp [ho, Op.operands, Call.operands, hc, ← Array.mem_toList_iff, ha]
  have hat0 : c.argTypes[0]? = some T := by rw [← Array.getElem?_toList, hat]; rfl
  have hex : ∀ (a : Act) (w w' : World) (v : Value), (Builtin.delete_ c.argTypes o.type #[a.eval x, a.eval y]).run P w = .ok v w' → (execOp a.eval o).run P w = .ok (.value v) w' := by
    intro a w w' v hr
    have hargs : c.args.map a.eval = #[a.eval x, a.eval y] := by apply Array.ext'; simp [ha]
    simp only [execOp, ho, resolve, hc, Sem.run_bind, Sem.run_pure, Result.andThen_ok, invoke, builtin, hargs, hr]
  unfold opDelete at h
  split at h
  case h_2 => cases h
  rename_i C E mk n g sts key hma
  cases h
  obtain ⟨⟨K, hu, hK⟩, ⟨hE, hva⟩, hx, hl, hkey⟩ := mapAt_of (P := P) hT hma
  refine OpOK.step fun ρ own w a hop hs hn => ?_
  rw [news_one (by rw [hl]; simp)]
  have h1 := hop x hopx; have h2 := hop y hopy
  rw [hx] at h1
  obtain ⟨L, hL, hev⟩ := h1
  obtain ⟨hy, hkl⟩ := keyS_is hK.one hkey h2
  have hsat := hs C (.inr (by simp [wnames]))
  rw [hl] at hsat
  obtain ⟨L', es, cl, hL', hb, hm, _⟩ := hsat
  obtain rfl : L = L' := by rw [hL] at hL'; simpa using hL'
  have hgo := getMap (P := P) (view_heap hb)
  have hck := hK.check es.isEmpty key w hkl
  have key2 : ∃ es', (Builtin.delete_ c.argTypes o.type #[a.eval x, a.eval y]).run P w = .ok (.tuple #[]) { w with heap := w.heap.setIfInBounds L.blk (.map es' cl) } ∧ MapIs (view own 0 w) mk (mdcount n g key) (mdel g key) es'.toList cl := by
    rcases map_found hm hK hkl w with ⟨hf, hg, hno⟩ | ⟨j, e, ps', hf, hej, hek, hg, _⟩
    · refine ⟨es, ?_, ?_⟩
      · simp only [Builtin.delete_, hat0, List.getElem?_toArray, List.getElem?_cons_zero, List.getElem?_cons_succ, Sem.run_bind, run_underlying hu, Result.andThen_ok, hev, hy, hgo, hck, hf]
        rw [setMap _ (view_heap hb)]
        simp
      · simp only [mdcount, hg]; exact hm.del_no hno
    · refine ⟨es.eraseIdxIfInBounds j, ?_, ?_⟩
      · simp only [Builtin.delete_, hat0, List.getElem?_toArray, List.getElem?_cons_zero, List.getElem?_cons_succ, Sem.run_bind, run_underlying hu, Result.andThen_ok, hev, hy, hgo, hck, hf]
        rw [setMap _ (view_heap hb)]
        simp
      · simp only [mdcount, hg]
        have hlt : j < es.size := by simpa using (List.getElem?_eq_some_iff.1 hej).1
        have : (es.eraseIdxIfInBounds j).toList = es.toList.eraseIdx j := by
          simp [Array.eraseIdxIfInBounds, hlt]
        rw [this]
        exact hm.del hej hek hkl
  obtain ⟨es', hrun, hm'⟩ := key2
  obtain ⟨hstp, hvw⟩ := Stp.setObj (ρ := ρ) (ρ' := ρ) (own := own) (w := w) (news := []) (wrs := wnames [(C, Ch.map mk (mdcount n g key) (mdel g key) [])])
    (w' := { w with heap := w.heap.setIfInBounds L.blk (.map es' cl) }) (fun _ _ => rfl) (by simp [wnames]) (view_own hb) (lt_of_some (view_heap hb)) rfl rfl rfl rfl
  have h0 := hstp.sub 0 (by omega)
  refine ⟨.tuple #[], _, ρ, own, .inl (hex _ _ _ _ hrun), hstp, ⟨#[], rfl, rfl⟩, fun q hq => ?_⟩
  simp only [List.mem_singleton] at hq
  subst hq
  exact ⟨L, es', cl, hL, hvw, hm'.mono h0, by simp⟩
end
end Go.Proofs.Ytladpdndjcgebaa.Sx
