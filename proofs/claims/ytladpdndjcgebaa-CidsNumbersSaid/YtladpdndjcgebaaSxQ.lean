/- The operations of the symbolic machine are sound (11): maps. -/
import Derived.Test.YtladpdndjcgebaaSxO
import Derived.MapKept
import Derived.WideKeyRuns
namespace Go.Proofs.Ytladpdndjcgebaa.Sx
set_option linter.unusedVariables false
open Go

section
variable {P : Program} {ty : Ty} {o : Oper} {tm : List SV} {H : List Ch} {p : Prop} {s : SV} {rd : List Nat} {wr : List (Nat × Ch)}

theorem map_int_inj (k : IntKind) : ∀ {a b : List Int}, a.map (Value.int k) = b.map (Value.int k) → a = b
  | [], [], _ => rfl
  | x :: a, y :: b, h => by
    simp only [List.map_cons, List.cons.injEq, Value.int.injEq, true_and] at h
    rw [h.1, map_int_inj k h.2]
  | [], _ :: _, h => by simp at h
  | _ :: _, [], h => by simp at h

theorem keyVal_inj {k : MK} (h1 : k.ag = false → k.ks = 1) {a b : List Int} (ha : a.length = k.ks) (hb : b.length = k.ks) (h : keyVal k a = keyVal k b) : a = b := by
  unfold keyVal at h
  cases hag : k.ag with
  | true =>
    rw [hag] at h
    simp only [Value.agg.injEq] at h
    have h2 : a.map (Value.int k.kk) = b.map (Value.int k.kk) := by
      have := congrArg Array.toList h
      simpa using this
    exact map_int_inj _ h2
  | false =>
    rw [hag] at h
    simp only [Value.int.injEq, true_and] at h
    rw [h1 hag] at ha hb
    match a, b, ha, hb with
    | [x], [y], _, _ => simpa using h

theorem vEq_ints {k : IntKind} : ∀ (a b : List Int), a.length = b.length → vEq (a.map (Value.int k)) (b.map (Value.int k)) = some (a == b)
  | [], [], _ => rfl
  | x :: a, y :: b, h => by
    have := vEq_ints (k := k) a b (by simpa using h)
    simp [vEq, this]
  | [], _ :: _, h => by simp at h
  | _ :: _, [], h => by simp at h

/-- What a map's type says of its keys. -/
structure KeyT (P : Program) (ty : Ty) (K : Nat) (k : MK) : Prop where
  one : k.ag = false → k.ks = 1
  eq : ∀ (a b : List Int) (w : World), a.length = k.ks → b.length = k.ks → (Op.equal K (keyVal k a) (keyVal k b)).run P w = .ok (a == b) w
  check : ∀ (em : Bool) (a : List Int) (w : World), a.length = k.ks → (Instr.checkKey em 10000 K (keyVal k a)).run P w = .ok () w
  now : ∀ (a : List Int) (es : List MapEntry) (w : World), a.length = k.ks → (∀ e ∈ es, ∃ l, l.length = k.ks ∧ e.key = keyVal k l) → (Instr.findKey K (keyVal k a) es).run P w = (Instr.findAsking K (keyVal k a) es).run P w

theorem keyT_of (hT : TyOK P ty) {K E : Nat} {k : MK} (h : mkOf ty K E = some k) : KeyT P ty K k ∧ (ty E).k.isOther = false ∧ k.va = (ty E).agg := by
  unfold mkOf at h
  split at h
  · cases h
  rename_i hE
  split at h
  · rename_i q hk
    simp only [Option.some.injEq] at h
    subst h
    have hu : P.underlying K = some (.int q) := und_of hT hk rfl
    refine ⟨⟨fun _ => rfl, fun a b w ha hb => ?_, fun em a w ha => ?_, fun a es w ha hes => ?_⟩, hE, rfl⟩
    · match a, b, ha, hb with
      | [x], [y], _, _ =>
        have := run_equalIn_int w 9999 K q q x y hu
        simp only [Op.equal, Op.maxDepth, keyVal, List.headD_cons]
        rw [this]
        congr 1
        rw [Bool.eq_iff_iff]
        simp
    · rw [show (10000 : Nat) = 9999 + 1 from rfl, Instr.checkKey]
      simp [keyVal, run_underlying hu]
    · have hnow : ∀ (es : List MapEntry) (i : Nat), (∀ e ∈ es, ∃ l : List Int, l.length = 1 ∧ e.key = keyVal ⟨q, false, 1, (ty E).agg⟩ l) → ∃ r, Instr.findNow (.int q) (keyVal ⟨q, false, 1, (ty E).agg⟩ a) es i = some r ∧ (Instr.findAsking K (keyVal ⟨q, false, 1, (ty E).agg⟩ a) es i).run P w = .ok r w := by
        intro es
        induction es with
        | nil => intro i _; exact ⟨none, rfl, by simp [Instr.findAsking]⟩
        | cons e es ih =>
          intro i hes
          obtain ⟨l, hl, hek⟩ := hes e (by simp)
          have he := run_equalIn_int w 9999 K q q (a.headD 0) (l.headD 0) hu
          obtain ⟨r, h1, h2⟩ := ih (i + 1) (fun x hx => hes x (by simp [hx]))
          simp only [keyVal] at h1 h2 hek ⊢
          generalize a.headD 0 = x0 at h1 h2 he ⊢
          generalize l.headD 0 = y0 at hek he
          by_cases hxy : x0 = y0
          · refine ⟨some (i, e.val), by simp [Instr.findNow, hek, Instr.sameNow, hxy], ?_⟩
            simp only [Instr.findAsking, Sem.run_bind, hek, Op.equal, Op.maxDepth, he, Result.andThen_ok]
            simp [hxy]
          · have hb : (x0 == y0) = false := by simpa using hxy
            refine ⟨r, by simp only [Instr.findNow, hek, Instr.sameNow, if_true]; rw [hb]; exact h1, ?_⟩
            simp only [Instr.findAsking, Sem.run_bind, hek, Op.equal, Op.maxDepth, he, Result.andThen_ok, hb]
            simpa using h2
      obtain ⟨r, h1, h2⟩ := hnow es 0 hes
      rw [h2]
      simp [Instr.findKey, run_underlying hu, h1]
  · rename_i n e hk
    split at h
    · rename_i q heq hke
      split at h
      · rename_i hsz
        simp only [Option.some.injEq] at h
        subst h
        have hu : P.underlying K = some (.array n e) := und_of hT hk rfl
        have hue : P.underlying e = some (.int q) := und_of hT hke rfl
        have hKo : (ty K).k.isOther = false := by rw [hk]; rfl
        have hKa : (ty K).agg = true := by simp [TI.agg, hk]
        obtain ⟨hf, _⟩ := (hT K hKo).flat heq
        have hse := fun w => (hT e (by rw [hke]; rfl)).size_run (ty := ty) w
        refine ⟨⟨(fun h => by cases h), fun a b w ha hb => ?_, fun em a w ha => ?_, fun a es w ha hes => ?_⟩, hE, rfl⟩
        · have hrun := flat_equal hT 8 K 10000 hf (by omega) (a.map (Value.int q)) (b.map (Value.int q)) (a == b) w (by rw [List.length_map, hsz.1]; exact ha) (by rw [List.length_map, hsz.1]; exact hb) (vEq_ints a b (ha.trans hb.symm))
          simp only [Op.equal, Op.maxDepth, keyVal]
          simpa [valOf, hKa] using hrun
        · simp only [keyVal]
          rw [show (10000 : Nat) = 9999 + 1 from rfl, Instr.checkKey]
          simp only [Sem.run_bind, run_underlying hu, Result.andThen_ok]
          simp only [Std.Legacy.Range.forIn_eq_forIn_range', Std.Legacy.Range.size, Nat.sub_zero, Nat.add_sub_cancel, Nat.div_one, Sem.run_bind, hse, hsz.2]
          have hin : ∀ i ∈ List.range' 0 n 1, i < a.length := fun i hi => by
            have ha : a.length = n := ha
            rw [ha]; simpa using (List.mem_range'_1.1 hi).2
          generalize List.range' 0 n 1 = l at hin ⊢
          induction l with
          | nil => simp
          | cons i l ih =>
            have hi := hin i (by simp)
            have hpart : (part e (a.map (Value.int q)).toArray (i * 1)).run P w = .ok (.int q a[i]) w := by
              simp [part, isAgg, run_underlying hue, hi]
            have hchk : ∀ x, (Instr.checkKey em 9999 e (.int q x)).run P w = .ok () w := by
              intro x
              rw [show (9999 : Nat) = 9998 + 1 from rfl, Instr.checkKey]
              simp [run_underlying hue]
            simp only [List.forIn_cons, Sem.run_bind, hse, Result.andThen_ok, hsz.2, hpart, hchk, Sem.run_pure]
            exact ih (fun j hj => hin j (by simp [hj]))
        · exact run_findKey_eq w (by rw [hu]) _ es
      · cases h
    · cases h
  · cases h

/-- The search for a key. -/
theorem find_run {K : Nat} {k : MK} (hK : KeyT P ty K k) {a : List Int} (ha : a.length = k.ks) (w : World) : ∀ (es : List MapEntry) (i : Nat), (∀ e ∈ es, ∃ l, l.length = k.ks ∧ e.key = keyVal k l) →
    ((Instr.findAsking K (keyVal k a) es i).run P w = .ok none w ∧ ∀ e ∈ es, e.key ≠ keyVal k a) ∨
    ∃ j e, (Instr.findAsking K (keyVal k a) es i).run P w = .ok (some (i + j, e.val)) w ∧ es[j]? = some e ∧ e.key = keyVal k a
  | [], i, _ => .inl ⟨by simp [Instr.findAsking], by simp⟩
  | e :: es, i, h => by
    obtain ⟨l, hl, hek⟩ := h e (by simp)
    have heq := hK.eq a l w ha hl
    by_cases hal : a = l
    · subst hal
      exact .inr ⟨0, e, by simp [Instr.findAsking, hek, heq], rfl, hek⟩
    · have hb : (a == l) = false := by simpa using hal
      rw [hb] at heq
      have hne : e.key ≠ keyVal k a := fun he => hal (keyVal_inj hK.one ha hl (by rw [← he, hek]))
      rcases find_run hK ha w es (i + 1) (fun x hx => h x (by simp [hx])) with ⟨h1, h2⟩ | ⟨j, e', h1, h2, h3⟩
      · refine .inl ⟨by simp [Instr.findAsking, hek, heq, h1], fun x hx => ?_⟩
        rcases List.mem_cons.1 hx with rfl | hx
        · exact hne
        · exact h2 x hx
      · exact .inr ⟨j + 1, e', by simp [Instr.findAsking, hek, heq, h1, Nat.add_assoc, Nat.add_comm 1 j], by simpa using h2, h3⟩

theorem keyL_is {ρ : Env} {hP : HL} {k : IntKind} : ∀ {l : List SV} {key : List Int} {vs : List Value}, keyL k l = some key → SV.isL ρ hP l vs → vs = key.map (Value.int k)
  | [], key, vs, h, hv => by simp only [keyL, Option.some.injEq] at h; subst h; exact hv
  | x :: l, key, vs, h, ⟨v, us, he, hx, hl⟩ => by
    subst he
    unfold keyL at h
    split at h
    · rename_i heq; cases heq
    · rename_i j n l' heq
      simp only [List.cons.injEq] at heq
      obtain ⟨rfl, rfl⟩ := heq
      split at h
      · rename_i hj
        split at h
        · rename_i r hr
          simp only [Option.some.injEq] at h
          subst h
          have hx := int_is hx
          subst hx; subst hj
          simp [keyL_is hr hl]
        · cases h
      · cases h
    · cases h
theorem keyL_length {k : IntKind} : ∀ {l : List SV} {key : List Int}, keyL k l = some key → key.length = l.length
  | [], key, h => by simp only [keyL, Option.some.injEq] at h; subst h; rfl
  | x :: l, key, h => by
    unfold keyL at h
    split at h
    · rename_i heq; cases heq
    · rename_i j n l' heq
      simp only [List.cons.injEq] at heq
      obtain ⟨rfl, rfl⟩ := heq
      split at h
      · split at h
        · rename_i r hr
          simp only [Option.some.injEq] at h
          subst h
          simp [keyL_length hr]
        · cases h
      · cases h
    · cases h

theorem keyS_is {k : MK} (h1 : k.ag = false → k.ks = 1) {x : SV} {key : List Int} (h : keyS k x = some key) {ρ : Env} {hP : HL} {v : Value} (hx : x.is ρ hP v) : v = keyVal k key ∧ key.length = k.ks := by
  unfold keyS at h
  split at h
  · split at h
    · rename_i hc
      simp only [Option.some.injEq] at h
      subst h
      have hx := int_is hx
      subst hx
      simp [keyVal, hc.1, hc.2, h1 hc.1]
    · cases h
  · split at h
    · rename_i l hc
      obtain ⟨vs, rfl, hl⟩ := hx
      have h2 := keyL_is h hl
      have h3 := keyL_length h
      refine ⟨?_, by rw [h3, ← llen_eq]; exact hc.2⟩
      simp only [keyVal, hc.1]
      congr 1
      apply Array.ext'
      simpa using h2
    · cases h
  · cases h

structure MapAt (P : Program) (ty : Ty) (H : List Ch) (tm : List SV) (T : Nat) (x y : Operand) (C E : Nat) (mk : MK) (n : Nat) (g : List Int → Option (List PV)) (sts : List (Nat × List Int)) (key : List Int) : Prop where
  K : ∃ K, P.underlying T = some (.map K E) ∧ KeyT P ty K mk
  E : (ty E).k.isOther = false ∧ mk.va = (ty E).agg
  x : ev tm x = .m C
  h : hget H C = .map mk n g sts
  key : keyS mk (ev tm y) = some key

theorem mapAt_of (hT : TyOK P ty) {T : Nat} {x y : Operand} {C E : Nat} {mk : MK} {n : Nat} {g : List Int → Option (List PV)} {sts : List (Nat × List Int)} {key : List Int}
    (h : mapAt ty H T (ev tm x) (ev tm y) = some (C, E, mk, n, g, sts, key)) : MapAt P ty H tm T x y C E mk n g sts key := by
  unfold mapAt at h
  split at h
  case h_2 => cases h
  rename_i K E' hk
  split at h
  case h_2 => cases h
  rename_i mk' hmk
  split at h
  case h_2 => cases h
  rename_i key' hkey
  split at h
  case h_2 => cases h
  rename_i C' hx
  split at h
  case h_2 => cases h
  rename_i mk'' n' g' sts' hl
  split at h
  case isFalse => cases h
  rename_i he
  simp only [Option.some.injEq, Prod.mk.injEq] at h
  obtain ⟨rfl, rfl, rfl, rfl, rfl, rfl, rfl⟩ := h
  obtain ⟨h1, h2⟩ := keyT_of (P := P) hT hmk
  exact ⟨⟨K, und_of hT hk rfl, h1⟩, h2, hx, by rw [hl, he], hkey⟩

theorem pack_val {ρ : Env} {hP : HL} {i : TI} {ps : List PV} {v : Value} (hl : listIs hP ps v.cells.toList) (h1 : i.agg = true → ∃ cs, v = .agg cs) (h2 : i.agg = false → v.cells = #[v]) : (pack i (mapC ps)).is ρ hP v := by
  unfold pack
  cases hag : i.agg with
  | true =>
    obtain ⟨cs, rfl⟩ := h1 hag
    exact ⟨cs, rfl, mapC_is hl⟩
  | false =>
    rw [h2 hag] at hl
    match ps, hl with
    | [q], ⟨u, us, he, hq, _⟩ =>
      simp only [List.cons.injEq] at he
      obtain ⟨rfl, rfl⟩ := he
      exact hq
    | q :: q' :: r, ⟨u, us, he, hq, hr⟩ =>
      simp only [List.cons.injEq] at he
      obtain ⟨rfl, rfl⟩ := he
      obtain ⟨_, _, h, _⟩ := hr
      cases h
    | [], h => cases h

/-- What a look into the map finds. -/
theorem map_found {hP : HL} {k : MK} {n : Nat} {g : List Int → Option (List PV)} {es : List MapEntry} {cl : Nat} (hm : MapIs hP k n g es cl) {K : Nat} (hK : KeyT P ty K k) {key : List Int} (hl : key.length = k.ks) (w : World) :
    ((Instr.findKey K (keyVal k key) es).run P w = .ok none w ∧ g key = none ∧ ∀ e ∈ es, e.key ≠ keyVal k key) ∨
    ∃ j e ps, (Instr.findKey K (keyVal k key) es).run P w = .ok (some (j, e.val)) w ∧ es[j]? = some e ∧ e.key = keyVal k key ∧ g key = some ps ∧ listIs hP ps e.val.cells.toList := by
  rw [hK.now key es w hl hm.keyed]
  rcases find_run hK hl w es 0 hm.keyed with ⟨h1, h2⟩ | ⟨j, e, h1, h2, h3⟩
  · left
    refine ⟨h1, ?_, h2⟩
    cases hg : g key with
    | none => rfl
    | some ps =>
      obtain ⟨e, he, hek, _⟩ := hm.some_ key ps hl hg
      exact (h2 e he hek).elim
  · right
    have he : e ∈ es := List.mem_of_getElem? h2
    cases hg : g key with
    | none => exact (hm.none_ key hl hg e he h3).elim
    | some ps =>
      obtain ⟨e', he', hek', hps⟩ := hm.some_ key ps hl hg
      have heq : e' = e := by
        obtain ⟨i1, hi1, e1⟩ := List.mem_iff_getElem.1 he'
        obtain ⟨i2, hi2, e2⟩ := List.mem_iff_getElem.1 he
        rcases Nat.lt_trichotomy i1 i2 with hlt | hEq | hgt
        · have := List.pairwise_iff_getElem.1 hm.uniq i1 i2 hi1 hi2 hlt
          rw [e1, e2, hek', h3] at this
          exact (this rfl).elim
        · subst hEq; rw [← e1, ← e2]
        · have := List.pairwise_iff_getElem.1 hm.uniq i2 i1 hi2 hi1 hgt
          rw [e1, e2, hek', h3] at this
          exact (this rfl).elim
      subst heq
      exact ⟨j, e', ps, by simpa using h1, h2, h3, rfl, hps⟩

theorem getMap {w : World} {r : Nat} {es : Array MapEntry} {cl : Nat} (hb : w.heap[r]? = some (.map es cl)) : (getObj r).run P w = .ok (.map es cl) w := by simp [getObj, Sem.run, hb]
theorem setMap {w : World} {r : Nat} {es : Array MapEntry} {cl : Nat} (ob : Obj) (hb : w.heap[r]? = some (.map es cl)) : (setObj r ob).run P w = .ok () { w with heap := w.heap.setIfInBounds r ob } := by simp [setObj, Sem.run, hb]

theorem sound_lookup {T : Nat} {x y : Operand} {ok : Bool} (hT : TyOK P ty) (ho : o.op = .lookup T x y ok) (h : opLookup ty H T (ev tm x) (ev tm y) ok = .ok p s rd wr) : OpOK P o tm H s rd wr := by
  have hopx : x ∈ o.op.operands := by simp [ho, Op.operands]
  have hopy : y ∈ o.op.operands := by simp [ho, Op.operands]
  unfold opLookup at h
  split at h
  case h_2 => cases h
  rename_i C E mk n g sts key hma
  cases h
  obtain ⟨⟨K, hu, hK⟩, ⟨hE, hva⟩, hx, hl, hkey⟩ := mapAt_of (P := P) hT hma
  refine OpOK.pure fun ρ own w a hop hs => ?_
  have h1 := hop x hopx; have h2 := hop y hopy
  rw [hx] at h1
  obtain ⟨L, hL, hev⟩ := h1
  obtain ⟨hy, hkl⟩ := keyS_is hK.one hkey h2
  have hsat := hs C (by simp)
  rw [hl] at hsat
  obtain ⟨L', es, cl, hL', hb, hm, _⟩ := hsat
  obtain rfl : L = L' := by rw [hL] at hL'; simpa using hL'
  have hgo := getMap (P := P) (view_heap hb)
  have hck := hK.check es.isEmpty key w hkl
  have key : ∃ v b, (execOp a.eval o).run P w = .ok (.value (if ok then .tuple #[v, .bool b] else v)) w ∧ (packO (ty E) (g key)).is ρ (view own 0 w) v ∧ b = (g key).isSome := by
    rcases map_found hm hK hkl w with ⟨hf, hg, _⟩ | ⟨j, e, ps, hf, hej, _, hg, hps⟩
    · obtain ⟨i, z, hi, _, _, _, _, hz, hzr⟩ := (hT E hE).info_run (ty := ty) w
      refine ⟨z, false, ?_, ?_, by rw [hg]; rfl⟩
      · simp only [execOp, ho, Instr.lookup, Sem.run_bind, run_underlying hu, Result.andThen_ok, hev, hy, hgo, Sem.run_pure, hck, hf, hzr]
      · rw [hg]
        exact pack_val (hz.1 _) hz.2.2.1 hz.2.2.2
    · have hv := hm.vals e (List.mem_of_getElem? hej)
      refine ⟨e.val, true, ?_, ?_, by rw [hg]; rfl⟩
      · simp only [execOp, ho, Instr.lookup, Sem.run_bind, run_underlying hu, Result.andThen_ok, hev, hy, hgo, Sem.run_pure, hck, hf]
      · rw [hg]
        exact pack_val hps (fun h => hv.1 (by rw [hva]; exact h)) (fun h => hv.2 (by rw [hva]; exact h))
  obtain ⟨v, b, hrun, hv, hb'⟩ := key
  refine ⟨_, hrun, ?_⟩
  cases ok with
  | true => exact ⟨#[v, .bool b], rfl, ⟨v, _, rfl, hv, ⟨.bool b, [], rfl, by rw [hb']; exact rfl, rfl⟩⟩⟩
  | false => exact hv

theorem Stp.setObj {ρ ρ' : Env} {own : Nat → Nat} {w w' : World} {C g : Nat} {news wrs : List Nat} {ob : Obj} (hloc : ∀ c, c ∉ news → ρ' c = ρ c) (hC : C ∈ wrs) (ho : own g = C + 3) (hg : g < w.heap.size) (hh : w'.heap = w.heap.setIfInBounds g ob)
    (h1 : w'.os = w.os) (h2 : w'.tape = w.tape) (h3 : w'.output = w.output) : Stp news wrs ρ own w ρ' own w' ∧ view own (C + 3) w' g = some ob := by
  refine ⟨Stp.of hloc (fun b ob' hb hn => ⟨rfl, ?_⟩) (by rw [hh]; simp) h1 h2 h3, ?_⟩
  · have hne : b ≠ g := by rintro rfl; exact hn C hC ho
    rw [hh]
    simp [Ne.symm hne, hb]
  · unfold view
    rw [if_pos ho, hh]
    simp [hg]

end
end Go.Proofs.Ytladpdndjcgebaa.Sx
