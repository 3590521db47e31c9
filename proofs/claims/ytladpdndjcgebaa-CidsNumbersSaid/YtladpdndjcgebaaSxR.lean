/- The operations of the symbolic machine are sound (12): maps that are made and written. -/
import Derived.Test.YtladpdndjcgebaaSxQ
namespace Go.Proofs.Ytladpdndjcgebaa.Sx
set_option linter.unusedVariables false
open Go

section
variable {P : Program} {ty : Ty} {o : Oper} {tm : List SV} {H : List Ch} {p : Prop} {s : SV} {rd : List Nat} {wr : List (Nat × Ch)}

theorem set_same {α β : Type} (f : α → β) {L : List α} {i : Nat} {e e' : α} (h : L[i]? = some e) (he : f e' = f e) : (L.set i e').map f = L.map f := by
  have h2 := (List.getElem?_eq_some_iff.1 h).2
  apply List.ext_getElem?
  intro j
  rw [List.getElem?_map, List.getElem?_map, List.getElem?_set]
  by_cases hij : i = j
  · subst hij
    have hlt : i < L.length := (List.getElem?_eq_some_iff.1 h).1
    simp [hlt, he, h2]
  · simp [hij]
theorem pair_of_map {α β : Type} (f : α → β) {L L' : List α} (h : L'.map f = L.map f) (hp : L.Pairwise fun a b => f a ≠ f b) : L'.Pairwise fun a b => f a ≠ f b := by
  have h1 : (L.map f).Pairwise (· ≠ ·) := List.pairwise_map.2 hp
  rw [← h] at h1
  exact List.pairwise_map.1 h1

structure ValIs (hP : HL) (k : MK) (ps : List PV) (v : Value) : Prop where
  a : k.va = true → ∃ cs, v = .agg cs
  b : k.va = false → v.cells = #[v]
  l : listIs hP ps v.cells.toList

theorem MapIs.upd {hP : HL} {k : MK} {n : Nat} {g : List Int → Option (List PV)} {L : List MapEntry} {cl i : Nat} (hm : MapIs hP k n g L cl) {e : MapEntry} (hi : L[i]? = some e) {key : List Int} (hk : e.key = keyVal k key) (hl : key.length = k.ks)
    {v : Value} {ps : List PV} (hv : ValIs hP k ps v) : MapIs hP k n (mset g key ps) (L.set i { e with val := v }) cl := by
  have he : e ∈ L := List.mem_of_getElem? hi
  have hlt : i < L.length := (List.getElem?_eq_some_iff.1 hi).1
  have hmem : ∀ x ∈ L.set i { e with val := v }, x = { e with val := v } ∨ x ∈ L := fun x hx => (List.mem_or_eq_of_mem_set hx).symm
  have hself : { e with val := v } ∈ L.set i { e with val := v } := List.mem_set hlt _
  refine ⟨hm.one, by simpa using hm.size, fun x hx => ?_, pair_of_map (fun x : MapEntry => x.key) (set_same (fun x : MapEntry => x.key) hi rfl) hm.uniq, pair_of_map (fun x : MapEntry => x.born) (set_same (fun x : MapEntry => x.born) hi rfl) hm.born, fun x hx => ?_, fun x hx => ?_, fun l ps' hl' hg => ?_, fun l hl' hg x hx => ?_⟩
  · rcases hmem x hx with rfl | hx
    · exact hm.keyed e he
    · exact hm.keyed x hx
  · rcases hmem x hx with rfl | hx
    · exact hm.clock e he
    · exact hm.clock x hx
  · rcases hmem x hx with rfl | hx
    · exact ⟨hv.a, hv.b⟩
    · exact hm.vals x hx
  · unfold mset at hg
    split at hg
    · rename_i hlk
      subst hlk
      simp only [Option.some.injEq] at hg
      subst hg
      exact ⟨_, hself, hk, hv.l⟩
    · rename_i hlk
      obtain ⟨x, hx, hxk, hxp⟩ := hm.some_ l ps' hl' hg
      obtain ⟨j, hj, rfl⟩ := List.mem_iff_getElem.1 hx
      have hne : i ≠ j := by
        rintro rfl
        have : L[i] = e := by rw [List.getElem?_eq_getElem hj] at hi; simpa using hi
        rw [this, hk] at hxk
        exact hlk (keyVal_inj hm.one hl' hl hxk.symm)
      refine ⟨L[j], ?_, hxk, hxp⟩
      rw [List.mem_iff_getElem?]
      exact ⟨j, by rw [List.getElem?_set_ne hne, List.getElem?_eq_getElem hj]⟩
  · unfold mset at hg
    split at hg
    · cases hg
    · rename_i hlk
      rcases hmem x hx with rfl | hx
      · intro hxe
        simp only at hxe
        rw [hk] at hxe
        exact hlk (keyVal_inj hm.one hl' hl hxe.symm)
      · exact hm.none_ l hl' hg x hx

theorem MapIs.put {hP : HL} {k : MK} {n : Nat} {g : List Int → Option (List PV)} {L : List MapEntry} {cl : Nat} (hm : MapIs hP k n g L cl) {key : List Int} (hno : ∀ e ∈ L, e.key ≠ keyVal k key) (hl : key.length = k.ks)
    {v : Value} {ps : List PV} (hv : ValIs hP k ps v) : MapIs hP k (n + 1) (mset g key ps) (L ++ [⟨keyVal k key, v, cl⟩]) (cl + 1) := by
  refine ⟨hm.one, by simp [hm.size], fun x hx => ?_, ?_, ?_, fun x hx => ?_, fun x hx => ?_, fun l ps' hl' hg => ?_, fun l hl' hg x hx => ?_⟩
  · rcases List.mem_append.1 hx with hx | hx
    · exact hm.keyed x hx
    · simp only [List.mem_singleton] at hx; subst hx; exact ⟨key, hl, rfl⟩
  · rw [List.pairwise_append]
    refine ⟨hm.uniq, by simp, fun a ha b hb => ?_⟩
    simp only [List.mem_singleton] at hb; subst hb
    exact hno a ha
  · rw [List.pairwise_append]
    refine ⟨hm.born, by simp, fun a ha b hb => ?_⟩
    simp only [List.mem_singleton] at hb; subst hb
    have := hm.clock a ha
    simp only
    omega
  · rcases List.mem_append.1 hx with hx | hx
    · have := hm.clock x hx; omega
    · simp only [List.mem_singleton] at hx; subst hx; simp
  · rcases List.mem_append.1 hx with hx | hx
    · exact hm.vals x hx
    · simp only [List.mem_singleton] at hx; subst hx; exact ⟨hv.a, hv.b⟩
  · unfold mset at hg
    split at hg
    · rename_i hlk
      subst hlk
      simp only [Option.some.injEq] at hg
      subst hg
      exact ⟨⟨keyVal k l, v, cl⟩, List.mem_append_right _ (by simp), rfl, hv.l⟩
    · obtain ⟨x, hx, h1, h2⟩ := hm.some_ l ps' hl' hg
      exact ⟨x, List.mem_append_left _ hx, h1, h2⟩
  · unfold mset at hg
    split at hg
    · cases hg
    · rename_i hlk
      rcases List.mem_append.1 hx with hx | hx
      · exact hm.none_ l hl' hg x hx
      · simp only [List.mem_singleton] at hx
        subst hx
        intro hxe
        exact hlk (keyVal_inj hm.one hl' hl hxe.symm)

theorem sameBits_key (k : MK) (l : List Int) (n : Nat) : Instr.sameBits (n + 2) (keyVal k l) (keyVal k l) = true := by
  unfold keyVal
  cases k.ag with
  | false => simp [Instr.sameBits]
  | true =>
    simp only [Instr.sameBits]
    rw [Bool.and_eq_true]
    refine ⟨by simp, ?_⟩
    rw [List.all_eq_true]
    intro x hx
    have h1 : ∀ (a : List Value) (x : Value × Value), x ∈ a.zip a → x.1 = x.2 ∧ x.1 ∈ a := by
      intro a
      induction a with
      | nil => intro x hx; simp at hx
      | cons y a ih =>
        intro x hx
        simp only [List.zip_cons_cons, List.mem_cons] at hx
        rcases hx with rfl | hx
        · exact ⟨rfl, by simp⟩
        · obtain ⟨h1, h2⟩ := ih x hx; exact ⟨h1, by simp [h2]⟩
    obtain ⟨h2, h3⟩ := h1 _ x hx
    obtain ⟨x1, x2⟩ := x
    simp only at h2 h3
    subst h2
    simp at h3
    obtain ⟨i, _, rfl⟩ := h3
    simp [Instr.sameBits]

theorem stays_run {k : MK} {l : List Int} {w : World} : (Instr.keyThatStays (keyVal k l) (keyVal k l)).run P w = .ok (keyVal k l) w := by
  unfold Instr.keyThatStays
  rw [show (10000 : Nat) = 9998 + 2 from rfl, sameBits_key]
  simp

theorem modify_list {es : Array MapEntry} {i : Nat} {e : MapEntry} (h : es.toList[i]? = some e) (f : MapEntry → MapEntry) : (es.modify i f).toList = es.toList.set i (f e) := by
  apply List.ext_getElem?
  intro j
  rw [Array.getElem?_toList, Array.getElem?_modify, List.getElem?_set]
  have hlt : i < es.toList.length := (List.getElem?_eq_some_iff.1 h).1
  by_cases hij : i = j
  · subst hij
    rw [Array.getElem?_toList] at h
    simp at hlt
    have h2 := (Array.getElem?_eq_some_iff.1 h).2
    simp [hlt, h2]
  · simp [hij]

/-- The map behind a write of one entry: the same, but for the entry. -/
structure MapStep (P : Program) (hP : HL) (k : MK) (n : Nat) (g : List Int → Option (List PV)) (key : List Int) (ps : List PV) (es : Array MapEntry) (cl : Nat) (es' : Array MapEntry) (cl' : Nat) : Prop where
  is : MapIs hP k (mcount n g key) (mset g key ps) es'.toList cl'
  stamps : ∀ e ∈ es.toList, ∃ e' ∈ es'.toList, e'.born = e.born ∧ e'.key = e.key

theorem sound_mapUpdate {T : Nat} {x y z : Operand} (hT : TyOK P ty) (ho : o.op = .mapUpdate T x y z ∨ o.op = .insert T x y z) (h : opMapUpdate ty H T (ev tm x) (ev tm y) (ev tm z) = .ok p s rd wr) : OpOK P o tm H s rd wr := by
  have hopx : x ∈ o.op.operands := by rcases ho with ho | ho <;> simp [ho, Op.operands]
  have hopy : y ∈ o.op.operands := by rcases ho with ho | ho <;> simp [ho, Op.operands]
  have hopz : z ∈ o.op.operands := by rcases ho with ho | ho <;> simp [ho, Op.operands]
  have hex : ∀ (a : Act) (w w' : World), (Instr.mapUpdate T (a.eval x) (a.eval y) (a.eval z)).run P w = .ok () w' → (execOp a.eval o).run P w = .ok .skip w' := by
    intro a w w' hr
    rcases ho with ho | ho <;> simp [execOp, ho, hr]
  unfold opMapUpdate at h
  split at h
  case h_2 => cases h
  rename_i C E mk n g sts key hma
  split at h
  case h_2 => cases h
  rename_i ps hps
  split at h
  case isFalse => cases h
  rename_i hsz
  cases h
  obtain ⟨⟨K, hu, hK⟩, ⟨hE, hva⟩, hx, hl, hkey⟩ := mapAt_of (P := P) hT hma
  refine OpOK.step fun ρ own w a hop hs hn => ?_
  rw [news_one (by rw [hl]; simp)]
  have h1 := hop x hopx; have h2 := hop y hopy; have h3 := hop z hopz
  rw [hx] at h1
  obtain ⟨L, hL, hev⟩ := h1
  obtain ⟨hy, hkl⟩ := keyS_is hK.one hkey h2
  have hsat := hs C (.inr (by simp [wnames]))
  rw [hl] at hsat
  obtain ⟨L', es, cl, hL', hb, hm, hst⟩ := hsat
  obtain rfl : L = L' := by rw [hL] at hL'; simpa using hL'
  have hgo := getMap (P := P) (view_heap hb)
  have hck := hK.check false key w hkl
  have hval : ValIs (view own 0 w) mk ps (a.eval z) := by
    cases hz : ev tm z with
    | a l =>
      rw [hz] at h3 hsz hps
      obtain ⟨vs, he, hvs⟩ := h3
      rw [he]
      refine ⟨fun _ => ⟨vs, rfl⟩, fun hv => ?_, consts_is hps hvs⟩
      rw [hva, ← hsz.2] at hv
      simp [opMapUpdate.isA] at hv
    | c q =>
      rw [hz] at h3 hsz hps
      have h1' := PV.one (hP := view own 0 w) h3
      refine ⟨fun hv => ?_, fun _ => cells_one h1', ?_⟩
      · rw [hva, ← hsz.2] at hv
        simp [opMapUpdate.isA] at hv
      · rw [cells_one h1']
        simp only [cellsOf, consts, Option.some.injEq] at hps
        subst hps
        exact ⟨a.eval z, [], rfl, h3, rfl⟩
    | _ => rw [hz] at hps; simp [cellsOf, consts] at hps
  have key2 : ∃ es' cl' w', (Instr.mapUpdate T (a.eval x) (a.eval y) (a.eval z)).run P w = .ok () w' ∧ w'.heap = w.heap.setIfInBounds L.blk (.map es' cl') ∧ w'.os = w.os ∧ w'.tape = w.tape ∧ w'.output = w.output ∧
      MapIs (view own 0 w) mk (mcount n g key) (mset g key ps) es'.toList cl' ∧ ∀ e ∈ es.toList, ∃ e' ∈ es'.toList, e'.born = e.born ∧ e'.key = e.key := by
    rcases map_found hm hK hkl w with ⟨hf, hg, hno⟩ | ⟨j, e, ps', hf, hej, hek, hg, _⟩
    · refine ⟨es.push { key := keyVal mk key, val := a.eval z, born := cl }, cl + 1, { w with heap := w.heap.setIfInBounds L.blk (.map (es.push { key := keyVal mk key, val := a.eval z, born := cl }) (cl + 1)) }, ?_, rfl, rfl, rfl, rfl, ?_, fun e he => ⟨e, by simp; left; simpa using he, rfl, rfl⟩⟩
      · simp only [Instr.mapUpdate, Sem.run_bind, run_underlying hu, Result.andThen_ok, hev, hy, hgo, hck, hf]
        rw [setMap _ (view_heap hb)]
      · have := hm.put hno hkl hval
        simp only [mcount, hg]
        simpa using this
    · have hi : es[j]? = some e := by rw [← Array.getElem?_toList]; exact hej
      refine ⟨es.modify j fun e => { e with key := keyVal mk key, val := a.eval z }, cl, { w with heap := w.heap.setIfInBounds L.blk (.map (es.modify j fun e => { e with key := keyVal mk key, val := a.eval z }) cl) }, ?_, rfl, rfl, rfl, rfl, ?_, fun d hd => ?_⟩
      · simp only [Instr.mapUpdate, Sem.run_bind, run_underlying hu, Result.andThen_ok, hev, hy, hgo, hck, hf, hi, Option.map_some, Option.getD_some, hek, stays_run]
        rw [setMap _ (view_heap hb)]
      · have := hm.upd hej hek hkl hval
        rw [modify_list hej]
        simp only [mcount, hg]
        have he2 : ({ e with key := keyVal mk key, val := a.eval z } : MapEntry) = { e with val := a.eval z } := by rw [← hek]
        rw [he2]
        exact this
      · rw [modify_list hej]
        obtain ⟨q, hq, rfl⟩ := List.mem_iff_getElem.1 hd
        by_cases hjq : j = q
        · subst hjq
          have : es.toList[j] = e := by rw [List.getElem?_eq_getElem hq] at hej; simpa using hej
          exact ⟨_, List.mem_set hq _, by rw [this], by rw [this, hek]⟩
        · exact ⟨es.toList[q], by rw [List.mem_iff_getElem?]; exact ⟨q, by rw [List.getElem?_set_ne hjq, List.getElem?_eq_getElem hq]⟩, rfl, rfl⟩
  obtain ⟨es', cl', w', hrun, hh, ho1, ho2, ho3, hm', hst'⟩ := key2
  obtain ⟨hstp, hv⟩ := Stp.setObj (ρ := ρ) (ρ' := ρ) (news := []) (wrs := wnames [(C, Ch.map mk (mcount n g key) (mset g key ps) sts)]) (fun _ _ => rfl) (by simp [wnames]) (view_own hb) (lt_of_some (view_heap hb)) hh ho1 ho2 ho3
  have h0 := hstp.sub 0 (by omega)
  refine ⟨undef, w', ρ, own, .inr ⟨hex a w w' hrun, rfl⟩, hstp, ⟨#[], rfl, rfl⟩, fun q hq => ?_⟩
  simp only [List.mem_singleton] at hq
  subst hq
  refine ⟨L, es', cl', hL, hv, hm'.mono h0, fun st hst2 => ?_⟩
  obtain ⟨l, h4, h5, e, he, h6, h7⟩ := hst st hst2
  obtain ⟨e', he', h8, h9⟩ := hst' e he
  exact ⟨l, h4, h5, e', he', h8.trans h6, h9.trans h7⟩

theorem sound_makeMap {T : Nat} (hT : TyOK P ty) (ho : o.op = .makeMap T none) (h : opMakeMap ty H T = .ok p s rd wr) : OpOK P o tm H s rd wr := by
  unfold opMakeMap at h
  split at h
  case h_2 => cases h
  rename_i K E hk
  split at h
  case h_2 => cases h
  rename_i mk hmk
  cases h
  obtain ⟨hK, _⟩ := keyT_of (P := P) hT hmk
  refine OpOK.step fun ρ own w a hop hs hn => ?_
  rw [news_new] at hn ⊢
  obtain ⟨hst, hv⟩ := Stp.new (wrs := wnames [(hlen H, Ch.map mk 0 (fun _ => none) [])]) (ρ := ρ) (own := own) (w := w) (w' := w.alloc (.map #[] 0)) (hlen H) ⟨w.heap.size, 0, 0, 0⟩ (.map #[] 0) rfl rfl rfl rfl rfl
  refine ⟨.map (some w.heap.size), _, _, _, .inl (by simp [execOp, ho, Instr.makeMap]), hst, ⟨⟨w.heap.size, 0, 0, 0⟩, by simp [Env.set], rfl⟩, fun q hq => ?_⟩
  simp only [List.mem_singleton] at hq
  subst hq
  refine ⟨⟨w.heap.size, 0, 0, 0⟩, #[], 0, by simp [Env.set], hv, ⟨hK.one, rfl, by simp, by simp, by simp, by simp, by simp, (fun _ _ _ h => by cases h), by simp⟩, by simp⟩
end
end Go.Proofs.Ytladpdndjcgebaa.Sx
