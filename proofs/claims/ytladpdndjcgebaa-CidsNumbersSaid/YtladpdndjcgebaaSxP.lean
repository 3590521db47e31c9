/- The operations of the symbolic machine are sound (14): the least and the greatest; conversions; slices that are made. -/
import Derived.Test.YtladpdndjcgebaaSxS
import Derived.Laws.BytesString
import Derived.Lib.ConvBytes
import Derived.Laws.MakeOwn
namespace Go.Proofs.Ytladpdndjcgebaa.Sx
set_option linter.unusedVariables false
open Go

section
variable {P : Program} {ty : Ty} {o : Oper} {tm : List SV} {H : List Ch} {p : Prop} {s : SV} {rd : List Nat} {wr : List (Nat × Ch)}

theorem min_run {ρ : Env} {hP : HL} {w : World} : ∀ {l : List SV} {k : IntKind} {n : Int} {vs : List Value}, opMinMax false (.c (.i k n)) l = .ok p s rd wr → SV.isL ρ hP l vs → rd = [] ∧ wr = [] ∧ ∃ v, (vs.foldlM Builtin.min2 (.int k n)).run P w = .ok v w ∧ s.is ρ hP v
  | [], k, n, vs, h, hv => by
    have hv : vs = [] := hv
    subst hv
    simp only [opMinMax] at h
    cases h
    exact ⟨rfl, rfl, .int k n, by simp, rfl⟩
  | x :: l, k, n, vs, h, ⟨v, us, he, hx, hl⟩ => by
    subst he
    cases x with
    | c q =>
      cases q with
      | i j m =>
        have hx := int_is hx
        subst hx
        simp only [opMinMax] at h
        obtain ⟨h1, h2, v, h3, h4⟩ := min_run (w := w) h hl
        exact ⟨h1, h2, v, by simpa [List.foldlM_cons, Builtin.min2] using h3, h4⟩
      | _ => simp [opMinMax] at h
    | _ => simp [opMinMax] at h
theorem max_run {ρ : Env} {hP : HL} {w : World} : ∀ {l : List SV} {k : IntKind} {n : Int} {vs : List Value}, opMinMax true (.c (.i k n)) l = .ok p s rd wr → SV.isL ρ hP l vs → rd = [] ∧ wr = [] ∧ ∃ v, (vs.foldlM Builtin.max2 (.int k n)).run P w = .ok v w ∧ s.is ρ hP v
  | [], k, n, vs, h, hv => by
    have hv : vs = [] := hv
    subst hv
    simp only [opMinMax] at h
    cases h
    exact ⟨rfl, rfl, .int k n, by simp, rfl⟩
  | x :: l, k, n, vs, h, ⟨v, us, he, hx, hl⟩ => by
    subst he
    cases x with
    | c q =>
      cases q with
      | i j m =>
        have hx := int_is hx
        subst hx
        simp only [opMinMax] at h
        obtain ⟨h1, h2, v, h3, h4⟩ := max_run (w := w) h hl
        exact ⟨h1, h2, v, by simpa [List.foldlM_cons, Builtin.max2] using h3, h4⟩
      | _ => simp [opMinMax] at h
    | _ => simp [opMinMax] at h

theorem evs_is {ρ : Env} {hP : HL} {a : Act} : ∀ {l : List Operand}, (∀ x ∈ l, (ev tm x).is ρ hP (a.eval x)) → SV.isL ρ hP (evs tm l) (l.map a.eval)
  | [], _ => rfl
  | x :: l, h => ⟨a.eval x, l.map a.eval, rfl, h x (by simp), evs_is fun y hy => h y (by simp [hy])⟩

theorem call_opers {c : Call} {b : Builtin} (ho : o.op = .call c) (hc : c.callee = .builtin b) {x : Operand} (hx : x ∈ c.args.toList) : x ∈ o.op.operands := by
  simp only [ho, Op.operands, Call.operands, hc]
  simpa using hx

theorem sound_minmax {mx : Bool} {c : Call} {x : Operand} {r : List Operand} (ho : o.op = .call c) (hc : c.callee = .builtin (if mx then .max else .min)) (ha : c.args.toList = x :: r)
    (h : opMinMax mx (ev tm x) (evs tm r) = .ok p s rd wr) : OpOK P o tm H s rd wr := by
  have hfst : ∃ k n, ev tm x = .c (.i k n) := by
    unfold opMinMax at h
    split at h
    · rename_i k n h1 _; exact ⟨k, n, h1⟩
    · rename_i k n j m r h1 _; exact ⟨k, n, h1⟩
    · cases h
  obtain ⟨k, n, hx⟩ := hfst
  rw [hx] at h
  have hnil : rd = [] ∧ wr = [] := by
    have : ∀ (l : List SV) (n : Int), opMinMax mx (.c (.i k n)) l = .ok p s rd wr → rd = [] ∧ wr = [] := by
      intro l
      induction l with
      | nil => intro n h; simp only [opMinMax] at h; cases h; exact ⟨rfl, rfl⟩
      | cons y l ih =>
        intro n h
        cases y with
        | c q =>
          cases q with
          | i j m => simp only [opMinMax] at h; exact ih _ h
          | _ => simp [opMinMax] at h
        | _ => simp [opMinMax] at h
    exact this _ _ h
  obtain ⟨rfl, rfl⟩ := hnil
  refine OpOK.pure fun ρ own w a hop hs => ?_
  have h1 := hop x (call_opers ho hc (by rw [ha]; simp))
  rw [hx] at h1
  have h1 := int_is h1
  have hr := evs_is (l := r) fun y hy => hop y (call_opers ho hc (by rw [ha]; simp [hy]))
  have hargs : (c.args.map a.eval).toList = .int k n :: r.map a.eval := by simp [ha, h1]
  cases mx with
  | true =>
    obtain ⟨_, _, v, h3, h4⟩ := max_run (P := P) (w := w) h hr
    refine ⟨v, ?_, h4⟩
    simp only [if_true] at hc
    simp only [execOp, ho, resolve, hc, Sem.run_bind, Sem.run_pure, Result.andThen_ok, invoke, builtin, Builtin.max_, hargs, h3]
  | false =>
    obtain ⟨_, _, v, h3, h4⟩ := min_run (P := P) (w := w) h hr
    refine ⟨v, ?_, h4⟩
    simp only [Bool.false_eq_true, if_false] at hc
    simp only [execOp, ho, resolve, hc, Sem.run_bind, Sem.run_pure, Result.andThen_ok, invoke, builtin, Builtin.min_, hargs, h3]

theorem und_any {T : Nat} (hT : TyOK P ty) (ho : (ty T).k.isOther = false) : ∃ d, P.underlying T = some d := by
  have h := (hT T ho).und
  cases hk : (ty T).k <;> rw [hk] at h ho <;> simp only [TK.fits] at h
  all_goals first
    | exact ⟨_, h⟩
    | (obtain ⟨_, _, _, h⟩ := h; exact ⟨_, h⟩)
    | (obtain ⟨_, h, _⟩ := h; exact ⟨_, h⟩)
    | simp [TK.isOther] at ho

theorem push_all (ns : List Int) : ∀ (s : ByteArray), (ns.foldl (fun r n => r.push (UInt8.ofNat n.toNat)) s) = ⟨s.data ++ (ns.map fun n => UInt8.ofNat n.toNat).toArray⟩ := by
  induction ns with
  | nil => intro s; simp
  | cons n ns ih =>
    intro s
    rw [List.foldl_cons, ih]
    simp [ByteArray.push]

theorem src_val {sz n : Nat} {x : SV} {f : Nat → Nat → PV} {vc : Prop} (h : srcOf sz H x = some (n, f, rd, vc)) (hb : ∀ b, x ≠ .c (.s b)) {ρ : Env} {hP : HL} {v : Value} (hx : x.is ρ hP v) : ∃ A l c, v = .slice A l c := by
  unfold srcOf at h
  split at h
  · obtain ⟨_, A, c, _, he, _⟩ := hx; exact ⟨A, _, c, he⟩
  · obtain ⟨_, A, _, he, _⟩ := hx; exact ⟨A, _, _, he⟩
  · obtain ⟨A, c, he, _⟩ := hx; exact ⟨A, _, c, he⟩
  · obtain ⟨he, _⟩ := hx; exact ⟨_, _, _, he⟩
  · exact (hb _ rfl).elim
  · cases h

def intP : PV → Int
  | .i _ n => n
  | _ => 0

/-- The bytes of a slice make a string. -/
theorem bytes_run {n : Nat} {x : SV} {f : Nat → Nat → PV} {vc : Prop} (h : srcOf 1 H x = some (n, f, rd, vc)) (hv : vc) (hf : ∀ i, i < n → IsByte (f i 0)) (hb : ∀ b, x ≠ .c (.s b)) {ρ : Env} {own : Nat → Nat} {w : World} {v : Value}
    (hx : x.is ρ (view own 0 w) v) (hs : ∀ c ∈ rd, (hget H c).sat ρ c (view own 0 w) (view own (c + 3) w)) : (Conv.bytesToString v).run P w = .ok (.string ⟨(bytesOf n f).toArray⟩) w := by
  obtain ⟨news, hn⟩ := src_is (P := P) h hv (by omega) hx hs
  obtain ⟨A, l, c, rfl⟩ := src_val h hb hx
  have hl : l = n := by
    have := hn.lenRun w
    simpa [Builtin.lenOf] using this
  subst hl
  have hnews : news = (List.range l).map fun i => .int .u8 (intP (f i 0)) := by
    apply List.ext_getElem?
    intro i
    by_cases hi : i < l
    · obtain ⟨u, hu, hfu⟩ := hn.el i hi 0 (by omega)
      obtain ⟨m, hm⟩ := hf i hi
      rw [hm] at hfu
      have hfu : u = .int .u8 m := hfu
      rw [Nat.mul_one, Nat.add_zero] at hu
      rw [hu, hfu]
      simp [hi, hm, intP]
    · rw [List.getElem?_eq_none (by rw [hn.len]; omega), List.getElem?_eq_none (by simp; omega)]
  have hfirst := hn.first l (Nat.le_refl _) w rfl
  cases A with
  | none =>
    simp only [Builtin.firstCells, Sem.run_pure, Result.ok.injEq, and_true] at hfirst
    have hl0 : l = 0 := by
      have h1 := hn.len
      have h2 := congrArg Array.size hfirst
      simp [h1] at h2
      omega
    subst hl0
    simp [Conv.bytesToString, bytesOf]
    rfl
  | some A =>
    have hlt : news.take (l * 1) = news := by rw [List.take_of_length_le]; rw [hn.len]; omega
    rw [hlt] at hfirst
    simp only [Builtin.firstCells, Nat.mul_one] at hfirst
    have := run_bytesToString (P := P) w A l c ((List.range l).map fun i => intP (f i 0)) (by rw [hfirst, hnews]; simp [Function.comp_def])
    rw [this, push_all]
    have hb : (bytesOf l f) = ((List.range l).map fun i => intP (f i 0)).map fun n => UInt8.ofNat n.toNat := by
      unfold bytesOf
      rw [List.map_map]
      apply List.map_congr_left
      intro i hi
      obtain ⟨m, hm⟩ := hf i (by simpa using hi)
      simp [hm, byteOf, intP]
    rw [hb]
    have h0 : ByteArray.empty.data = #[] := rfl
    rw [h0, Array.empty_append]

theorem sound_convert {S D : Nat} {x : Operand} (hT : TyOK P ty) (ho : o.op = .convert S D x) (h : opConvert ty H S D (ev tm x) = .ok p s rd wr) (hp : p) : OpOK P o tm H s rd wr := by
  have hopx : x ∈ o.op.operands := by simp [ho, Op.operands]
  unfold opConvert at h
  split at h
  · cases h
  rename_i hS
  obtain ⟨dS, hdS⟩ := und_any hT hS
  split at h
  · rename_i k hk
    have hu : P.underlying D = some (.int k) := und_of hT hk rfl
    split at h
    · rename_i j n hx
      cases h
      refine OpOK.pure fun ρ own w a hop _ => ⟨.int k (k.wrap n), ?_, rfl⟩
      have h1 := hop x hopx
      rw [hx] at h1
      have h1 := int_is h1
      simp [execOp, ho, h1, convert, run_underlying hdS, run_underlying hu, Conv.intToInt]
    · cases h
  · rename_i hk
    have hu : P.underlying D = some .string := und_of hT hk rfl
    split at h
    · rename_i b hx
      cases h
      refine OpOK.pure fun ρ own w a hop _ => ⟨.string ⟨b.toArray⟩, ?_, rfl⟩
      have h1 := hop x hopx
      rw [hx] at h1
      have h1 := str_is h1
      simp [execOp, ho, h1, convert, run_underlying hdS, run_underlying hu]
    · rename_i hnb
      split at h
      · rename_i e hke
        split at h
        · rename_i hku
          split at h
          · rename_i n f rd' vc hsrc
            cases h
            have huS : P.underlying S = some (.slice e) := und_of hT hke rfl
            have hue : P.underlying e = some (.int .u8) := und_of hT hku rfl
            refine OpOK.pure fun ρ own w a hop hs => ⟨_, ?_, rfl⟩
            have h1 := hop x hopx
            have hr := bytes_run (P := P) hsrc hp.1 hp.2 (fun b hb => hnb b hb) h1 hs
            obtain ⟨A, l, c, he⟩ := src_val hsrc (fun b hb => hnb b hb) h1
            rw [he] at hr
            simp only [execOp, ho, he, Sem.run_bind, run_convert_bytes_string w S D e A l c huS hue hu, hr, Result.andThen_ok, Sem.run_pure]
          · cases h
        · cases h
      · cases h
  · rename_i e hk
    split at h
    · rename_i b hku hx
      cases h
      have hu : P.underlying D = some (.slice e) := und_of hT hk rfl
      have hue : P.underlying e = some (.int .u8) := und_of hT hku rfl
      refine OpOK.step fun ρ own w a hop _ hn => ?_
      rw [news_new] at hn ⊢
      have h1 := hop x hopx
      rw [hx] at h1
      have h1 := str_is h1
      have hr := Lib.run_convert_string_bytes (P := P) w S D e ⟨b.toArray⟩ hdS hu hue
      have hbs : (⟨b.toArray⟩ : ByteArray).size = b.length := by show b.toArray.size = _; simp
      have hge := grownCap_ge w b.length 0 e
      have hle := grownCap_le_maxLen w b.length 0 e (by unfold maxLen; omega)
      rw [hbs] at hr
      have hnew : (Lib.bytesWorld w e ⟨b.toArray⟩).heap = w.heap.push (.cells (Lib.bytesCells w e ⟨b.toArray⟩) e ((Lib.bytesCells w e ⟨b.toArray⟩).size, (Lib.bytesCells w e ⟨b.toArray⟩).size + 1)) := by
        apply Array.ext
        · rw [Lib.bytesWorld_size]; simp
        · intro i h1 h2
          apply Option.some.inj
          rw [← Array.getElem?_eq_getElem, ← Array.getElem?_eq_getElem, Array.getElem?_push]
          by_cases hi : i = w.heap.size
          · rw [if_pos hi, hi]; exact Lib.bytesWorld_at_new w e _
          · rw [if_neg hi]
            refine Lib.bytesWorld_at_old w e _ i ?_
            rw [Lib.bytesWorld_size] at h1
            omega
      have hcs : (Lib.bytesCells w e ⟨b.toArray⟩).size = grownCap w b.length 0 e := by
        simp [Lib.bytesCells, hbs]
        omega
      obtain ⟨hst, hv⟩ := Stp.new (wrs := wnames [(hlen H, Ch.vec e 1 b.length (bytesF b))]) (ρ := ρ) (own := own) (w := w) (w' := Lib.bytesWorld w e ⟨b.toArray⟩) (hlen H) ⟨w.heap.size, 0, grownCap w b.length 0 e, 1⟩ _ hnew rfl rfl rfl rfl
      refine ⟨.slice (some ⟨w.heap.size, 0, none⟩) b.length (grownCap w b.length 0 e), _, _, _, .inl (by simp only [execOp, ho, h1, Sem.run_bind, hr, Result.andThen_ok, Sem.run_pure]), hst, ⟨⟨w.heap.size, 0, grownCap w b.length 0 e, 1⟩, _, grownCap w b.length 0 e, by simp [Env.set], rfl, hge, fun _ => by simp, by simp, by simp⟩, fun y hy => ?_⟩
      simp only [List.mem_singleton] at hy
      subst hy
      refine vec_new (L := ⟨w.heap.size, 0, grownCap w b.length 0 e, 1⟩) (by simp [Env.set]) rfl hge hle hv (by rw [hcs]; simp) (fun j hj => by simp; omega) (fun i hi j hj => ?_)
      obtain rfl : j = 0 := by omega
      refine ⟨.int .u8 (b[i].toNat : Int), ?_, ?_⟩
      · simp [Lib.bytesCells, Array.getElem?_append, hi]
      · show Value.int .u8 _ = Value.int .u8 _
        simp [List.getD, hi]
    · cases h
  · cases h

theorem sound_makeSlice {T : Nat} {x y : Operand} (hT : TyOK P ty) (ho : o.op = .makeSlice T x y) (h : opMakeSlice ty H T (ev tm x) (ev tm y) = .ok p s rd wr) (hp : p) : OpOK P o tm H s rd wr := by
  have hopx : x ∈ o.op.operands := by simp [ho, Op.operands]
  have hopy : y ∈ o.op.operands := by simp [ho, Op.operands]
  unfold opMakeSlice at h
  split at h
  case h_2 => cases h
  rename_i kl l kc c hx hy
  split at h
  case h_2 => cases h
  rename_i e hk
  split at h
  · cases h
  rename_i hc
  cases h
  obtain ⟨h0, hlc, hby, h63⟩ := hp
  have hoth : (ty e).k.isOther = false := by cases h : (ty e).k.isOther <;> simp_all
  have hpos : 0 < (ty e).sz := by have : (ty e).sz ≠ 0 := fun hx => hc (.inl hx); omega
  refine OpOK.step fun ρ own w a hop _ hn => ?_
  rw [news_new] at hn ⊢
  have h1 := hop x hopx; have h2 := hop y hopy
  rw [hx] at h1; rw [hy] at h2
  have h1 := int_is h1
  have h2 := int_is h2
  have hu : P.underlying T = some (.slice e) := und_of hT hk rfl
  obtain ⟨i, z, hi, _, hse', hbe, hze, hz, hzr⟩ := (hT e hoth).info_run (ty := ty) w
  have hr := run_make (P := P) w T e i z hu hi hze kl kc l c h0 hlc (by rw [hbe]; exact hby) h63
  rw [hse'] at hr
  have hcap : c.toNat ≤ maxLen := by unfold maxLen; omega
  obtain ⟨hst, hv⟩ := Stp.new (wrs := wnames [(hlen H, Ch.vec e (ty e).sz l.toNat (zeroF (ty e).z))]) (ρ := ρ) (own := own) (w := w) (w' := w.alloc (.cells (madeCells z.cells (c.toNat * (ty e).sz)) e)) (hlen H) ⟨w.heap.size, 0, c.toNat, (ty e).sz⟩ _ rfl rfl rfl rfl rfl
  refine ⟨.slice (some ⟨w.heap.size, 0, none⟩) l.toNat c.toNat, _, _, _, .inl (by simp only [execOp, ho, h1, h2, Sem.run_bind, hr, Result.andThen_ok, Sem.run_pure]), hst, ⟨⟨w.heap.size, 0, c.toNat, (ty e).sz⟩, _, c.toNat, by simp [Env.set], rfl, by omega, fun _ => by simp, by simp, by simp⟩, fun q hq => ?_⟩
  simp only [List.mem_singleton] at hq
  subst hq
  have hzs : z.cells.size = (ty e).sz := hz.2.1
  refine vec_new (L := ⟨w.heap.size, 0, c.toNat, (ty e).sz⟩) (by simp [Env.set]) rfl (by simp only; omega) hcap hv (by rw [size_madeCells]; simp) (unfrozen0 _) (fun k hk2 j hj => ?_)
  have hlt : k * (ty e).sz + j < c.toNat * (ty e).sz := by
    have := Nat.mul_le_mul_right (ty e).sz (show k + 1 ≤ c.toNat by omega)
    rw [Nat.add_mul] at this
    omega
  have hjz : j < z.cells.size := by omega
  refine ⟨z.cells[j], ?_, ?_⟩
  · simp only [madeCells, Nat.zero_add, Array.getElem?_map]
    rw [Array.getElem?_range, if_pos hlt]
    simp only [Option.map_some, hzs, Nat.mul_comm k, Nat.mul_add_mod, Nat.mod_eq_of_lt hj]
    simp [hjz]
  · exact pget_is (hz.1 _) (by simp [hjz])
end
end Go.Proofs.Ytladpdndjcgebaa.Sx
