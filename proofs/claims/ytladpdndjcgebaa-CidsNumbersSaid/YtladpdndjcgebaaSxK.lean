/- The operations of the symbolic machine are sound (6): what slices and strings hold; lengths; conversions. -/
import Derived.Test.YtladpdndjcgebaaSxJ
namespace Go.Proofs.Ytladpdndjcgebaa.Sx
set_option linter.unusedVariables false
open Go

section
variable {P : Program} {ty : Ty} {o : Oper} {tm : List SV} {H : List Ch} {p : Prop} {s : SV} {rd : List Nat} {wr : List (Nat × Ch)}

/-- What a slice or a string holds. -/
structure SrcIs (P : Program) (hP : HL) (w : World) (sz n : Nat) (f : Nat → Nat → PV) (v : Value) (news : List Value) : Prop where
  len : news.length = n * sz
  el : ∀ i, i < n → ∀ j, j < sz → ∃ u, news[i * sz + j]? = some u ∧ (f i j).is hP u
  one : ∀ u ∈ news, u.oneCell' = true
  lenRun : ∀ w', (Builtin.lenOf v).run P w' = .ok n w'
  first : ∀ m, m ≤ n → ∀ w', w'.heap = w.heap → (Builtin.firstCells sz m v).run P w' = .ok (news.take (m * sz)).toArray w'

theorem cell_heap {w w' : World} (h : w'.heap = w.heap) (a : Addr) : w'.cell? a = w.cell? a := by simp [World.cell?, h]

theorem el_of {hP : HL} {sz n : Nat} {f : Nat → Nat → PV} {news : List Value} (hsz : 0 < sz) (hl : news.length = n * sz) (h : ∀ k u, news[k]? = some u → (f (k / sz) (k % sz)).is hP u) :
    (∀ i, i < n → ∀ j, j < sz → ∃ u, news[i * sz + j]? = some u ∧ (f i j).is hP u) ∧ ∀ u ∈ news, u.oneCell' = true := by
  refine ⟨fun i hi j hj => ?_, fun u hu => ?_⟩
  · have hlt : i * sz + j < news.length := by
      have := Nat.mul_le_mul_right sz (show i + 1 ≤ n by omega)
      rw [Nat.add_mul] at this
      omega
    refine ⟨news[i * sz + j], List.getElem?_eq_getElem hlt, ?_⟩
    have := h (i * sz + j) _ (List.getElem?_eq_getElem hlt)
    rwa [show (i * sz + j) / sz = i by rw [Nat.mul_comm, Nat.mul_add_div hsz, Nat.div_eq_of_lt hj]; omega,
      show (i * sz + j) % sz = j by rw [Nat.mul_comm, Nat.mul_add_mod, Nat.mod_eq_of_lt hj]] at this
  · obtain ⟨k, hk, rfl⟩ := List.mem_iff_getElem.1 hu
    exact PV.one (h k _ (List.getElem?_eq_getElem hk))

/-- A slice value whose cells are known. -/
theorem src_slice {hP : HL} {w : World} {sz n cap : Nat} {A : Option Addr} {f : Nat → Nat → PV} (hsz : 0 < sz) (hc : n ≤ cap) {b off : Nat} (hA : 0 < n → A = some ⟨b, off, none⟩)
    (h : ∀ i, i < n → ∀ j, j < sz → ∃ u, w.cell? ⟨b, off + (i * sz + j), none⟩ = some u ∧ (f i j).is hP u) : ∃ news, SrcIs P hP w sz n f (.slice A n cap) news := by
  obtain ⟨news, h1, h2, h3⟩ := list_of_cells (w := w) (b := b) (off := off) (n := n * sz) (Q := fun k u => (f (k / sz) (k % sz)).is hP u) (fun k hk => by
    have hi : k / sz < n := Nat.div_lt_of_lt_mul (by rw [Nat.mul_comm]; exact hk)
    obtain ⟨u, hu, hf⟩ := h (k / sz) hi (k % sz) (Nat.mod_lt _ hsz)
    refine ⟨u, ?_, hf⟩
    rwa [show k / sz * sz + k % sz = k by rw [Nat.mul_comm]; exact Nat.div_add_mod k sz] at hu)
  obtain ⟨h4, h5⟩ := el_of (f := f) hsz h1 h3
  refine ⟨news, h1, h4, h5, fun w' => by simp [Builtin.lenOf], fun m hm w' hw' => ?_⟩
  rcases Nat.eq_zero_or_pos m with rfl | hm0
  · cases A <;> simp [Builtin.firstCells, loadCells, loadCellsFrom]
  · rw [hA (by omega)]
    have hle : m * sz ≤ n * sz := Nat.mul_le_mul_right _ hm
    have hr := run_loadCells_list (P := P) w' ⟨b, off, none⟩ (news.take (m * sz)) (fun j u hu => by
      rw [addr_add, cell_heap hw']
      rw [List.getElem?_take] at hu
      split at hu
      · exact h2 j u hu
      · cases hu)
    have hlen : (news.take (m * sz)).length = m * sz := by rw [List.length_take, h1]; omega
    rw [hlen] at hr
    simpa [Builtin.firstCells] using hr

theorem src_is {sz n : Nat} {x : SV} {f : Nat → Nat → PV} {vc : Prop} (h : srcOf sz H x = some (n, f, rd, vc)) (hv : vc) (hsz : 0 < sz) {ρ : Env} {own : Nat → Nat} {w : World} {v : Value}
    (hx : x.is ρ (view own 0 w) v) (hs : ∀ c ∈ rd, (hget H c).sat ρ c (view own 0 w) (view own (c + 3) w)) : ∃ news, SrcIs P (view own 0 w) w sz n f v news := by
  unfold srcOf at h
  split at h
  · rename_i C st len lim
    split at h
    · rename_i T' sz' n' f' hl
      split at h
      · rename_i hszs
        simp only [Option.some.injEq, Prod.mk.injEq] at h
        obtain ⟨rfl, rfl, rfl, rfl⟩ := h
        subst hszs
        obtain ⟨L, A, cap, hL, rfl, hlc, hA, hcap, _⟩ := hx
        have hsat := hs C (by simp)
        rw [hl] at hsat
        obtain ⟨L', hL', hLs, hn, _, hrest⟩ := hsat
        obtain rfl : L = L' := by rw [hL] at hL'; simpa using hL'
        refine src_slice hsz hlc (b := L.blk) (off := L.off + st * L.sz) (fun h0 => hA (by omega)) (fun i hi j hj => ?_)
        obtain ⟨arr, fr, hb, _, _, hcells⟩ := hrest (by omega)
        obtain ⟨u, hu, hf⟩ := hcells (st + i) (by omega) j hj
        refine ⟨u, ?_, hf⟩
        rw [cell_of_heap (view_heap hb), ← hu, hLs, Nat.add_mul]
        congr 1
        omega
      · cases h
    · cases h
  · rename_i C off sz' len cap
    split at h
    · rename_i T' l hl
      split at h
      · rename_i hszs
        split at h
        · rename_i r hr
          split at h
          · rename_i ps hps
            simp only [Option.some.injEq, Prod.mk.injEq] at h
            obtain ⟨rfl, rfl, rfl, rfl⟩ := h
            subst hszs
            obtain ⟨L, A, hL, rfl, hlc, hA, _⟩ := hx
            have hsat := hs C (by simp)
            rw [hl] at hsat
            obtain ⟨L', arr, hL', hoff, hcap, hb, his⟩ := hsat
            obtain rfl : L = L' := by rw [hL] at hL'; simpa using hL'
            obtain ⟨h1, h2, h3⟩ := lslice_is hr his
            refine src_slice hsz hlc (b := L.blk) (off := L.off + off) (fun h0 => hA (by omega)) (fun i hi j hj => ?_)
            have hk : i * sz' + j < len * sz' := by
              have := Nat.mul_le_mul_right sz' (show i + 1 ≤ len by omega)
              rw [Nat.add_mul] at this
              omega
            have hcs : ∀ {r : List SV} {ps : List PV} {us : List Value} (k : Nat) (u : Value), consts r = some ps → SV.isL ρ (view own 0 w) r us → us[k]? = some u → (pget ps k).is (view own 0 w) u := by
              intro r
              induction r with
              | nil => intro ps us k u _ h hu; have h : us = [] := h; subst h; simp at hu
              | cons x r ih =>
                intro ps us k u hc ⟨u0, us', he, hx0, hr0⟩ hu
                subst he
                cases x with
                | c q =>
                  simp only [consts] at hc
                  split at hc
                  · rename_i r' hr'
                    simp only [Option.some.injEq] at hc
                    subst hc
                    cases k with
                    | zero => simp at hu; subst hu; exact hx0
                    | succ k => simp at hu; exact ih k u hr' hr0 hu
                  · cases hc
                | _ => simp [consts] at hc
            have hlt : i * sz' + j < ((arr.toList.drop off).take (len * sz')).length := by rw [List.length_take, List.length_drop]; omega
            refine ⟨_, ?_, hcs (i * sz' + j) _ hps h1 (List.getElem?_eq_getElem hlt)⟩
            rw [cell_of_heap (view_heap hb), hoff, ← List.getElem?_eq_getElem hlt, List.getElem?_take, if_pos hk, List.getElem?_drop]
            simp [Nat.add_assoc]
          · cases h
        · cases h
      · cases h
    · cases h
  · rename_i sz' n' f'
    split at h
    · rename_i hszs
      simp only [Option.some.injEq, Prod.mk.injEq] at h
      obtain ⟨rfl, rfl, rfl, rfl⟩ := h
      subst hszs
      obtain ⟨A, cap, rfl, hlc, blk, off, hA, hcells⟩ := hx
      refine src_slice hsz hlc hA (fun i hi j hj => ?_)
      obtain ⟨u, hu, hf⟩ := hcells i hi j hj
      exact ⟨u, cell_of_hcell hu, hf⟩
    · cases h
  · simp only [Option.some.injEq, Prod.mk.injEq] at h
    obtain ⟨rfl, rfl, rfl, rfl⟩ := h
    obtain ⟨rfl, _⟩ := hx
    refine ⟨[], by simp, by simp, by simp, fun w' => by simp [Builtin.lenOf], fun m hm w' _ => by simp [Builtin.firstCells]⟩
  · rename_i b
    split at h
    · rename_i hszs
      simp only [Option.some.injEq, Prod.mk.injEq] at h
      obtain ⟨rfl, rfl, rfl, rfl⟩ := h
      subst hszs
      have hx := str_is hx
      subst hx
      refine ⟨b.map fun c => .int .u8 (c.toNat : Int), by simp, fun i hi j hj => ?_, by simp [Value.oneCell'], fun w' => ?_, fun m hm w' _ => ?_⟩
      · obtain rfl : j = 0 := by omega
        refine ⟨.int .u8 (b[i].toNat : Int), by simp [hi], ?_⟩
        show Value.int .u8 _ = Value.int .u8 _
        simp [List.getD, hi]
      · have hsz : (⟨b.toArray⟩ : ByteArray).size = b.length := by show b.toArray.size = _; simp
        simp [Builtin.lenOf, hsz]
      · simp only [Builtin.firstCells, Sem.run_pure, Nat.mul_one]
        congr 1
        apply Array.ext'
        rw [ByteArray.data_extract]
        simp [List.extract_eq_take_drop]
    · cases h
  · cases h

theorem sound_len {T : Nat} {x : Operand} {c : Call} (hT : TyOK P ty) (ho : o.op = .call c) (hc : c.callee = .builtin .len) {args : List Operand} {ats : List Nat} (ha : c.args.toList = x :: args) (hat : c.argTypes.toList = T :: ats)
    (h : opLen ty H T (ev tm x) = .ok p s rd wr) : OpOK P o tm H s rd wr := by
  have hopx : x ∈ o.op.operands := by
    have : x ∈ c.args := by rw [← Array.mem_toList_iff, ha]; simp
    simp [ho, Op.operands, Call.operands, hc, this]
  have key : ∀ (n : Int) rd' (s' : SV), s' = .c (.i .i64 n) → (∀ ρ own w (a : Act), (ev tm x).is ρ (view own 0 w) (a.eval x) → (∀ c ∈ rd', (hget H c).sat ρ c (view own 0 w) (view own (c + 3) w)) →
      (∀ args : Array Value, args[0]? = some (a.eval x) → (Builtin.len_ c.argTypes o.type args).run P w = .ok (goInt n) w)) → OpOK P o tm H s' rd' [] := by
    intro n rd' s' hs' hr
    refine OpOK.pure fun ρ own w a hop hsat => ?_
    refine ⟨goInt n, ?_, by subst hs'; rfl⟩
    have := hr ρ own w a (hop x hopx) hsat (c.args.map a.eval) (by
      have : c.args[0]? = some x := by rw [← Array.getElem?_toList, ha]; rfl
      simp [this])
    simp only [execOp, ho, resolve, hc, Sem.run_bind, Sem.run_pure, Result.andThen_ok, invoke, builtin, this]
  have hat0 : c.argTypes[0]? = some T := by rw [← Array.getElem?_toList, hat]; rfl
  unfold opLen at h
  split at h
  · rename_i n e hk
    cases h
    have hu : P.underlying T = some (.array n e) := und_of hT hk rfl
    exact key n [] _ rfl fun ρ own w a hx _ args hargs => by simp [Builtin.len_, hat0, hargs, run_underlying hu]
  · rename_i t hk
    have hu : P.underlying T = some (.pointer t) := und_of hT hk rfl
    split at h
    · rename_i n e hk2
      cases h
      have hu2 : P.underlying t = some (.array n e) := und_of hT hk2 rfl
      exact key n [] _ rfl fun ρ own w a hx _ args hargs => by simp [Builtin.len_, hat0, hargs, run_underlying hu, run_underlying hu2]
    · cases h
  · rename_i e hk
    have hu : P.underlying T = some (.slice e) := und_of hT hk rfl
    split at h
    · rename_i C st len lim hx
      cases h
      exact key len [] _ rfl fun ρ own w a h1 _ args hargs => by rw [hx] at h1; obtain ⟨_, _, _, _, he, _⟩ := h1; simp [Builtin.len_, hat0, hargs, run_underlying hu, he]
    · rename_i C off sz len cap hx
      cases h
      exact key len [] _ rfl fun ρ own w a h1 _ args hargs => by rw [hx] at h1; obtain ⟨_, _, _, he, _⟩ := h1; simp [Builtin.len_, hat0, hargs, run_underlying hu, he]
    · rename_i sz n f hx
      cases h
      exact key n [] _ rfl fun ρ own w a h1 _ args hargs => by rw [hx] at h1; obtain ⟨_, _, he, _⟩ := h1; simp [Builtin.len_, hat0, hargs, run_underlying hu, he]
    · rename_i hx
      cases h
      exact key 0 [] _ rfl fun ρ own w a h1 _ args hargs => by rw [hx] at h1; obtain ⟨he, _⟩ := h1; simp [Builtin.len_, hat0, hargs, run_underlying hu, he]
    · rename_i A n cap _ hx
      cases h
      exact key n [] _ rfl fun ρ own w a h1 _ args hargs => by rw [hx] at h1; obtain ⟨he, _⟩ := h1; simp [Builtin.len_, hat0, hargs, run_underlying hu, he]
    · cases h
  · rename_i hk
    have hu : P.underlying T = some .string := und_of hT hk rfl
    split at h
    · rename_i b hx
      cases h
      exact key b.length [] _ rfl fun ρ own w a h1 _ args hargs => by
        rw [hx] at h1
        have h1 := str_is h1
        have hsz : (⟨b.toArray⟩ : ByteArray).size = b.length := by show b.toArray.size = _; simp
        simp [Builtin.len_, hat0, hargs, run_underlying hu, h1, hsz]
    · cases h
  · rename_i k e hk
    have hu : P.underlying T = some (.map k e) := und_of hT hk rfl
    split at h
    · rename_i C hx
      split at h
      · rename_i mk n g st hl
        cases h
        exact key n [C] _ rfl fun ρ own w a h1 hsat args hargs => by
          rw [hx] at h1
          obtain ⟨L, hL, he⟩ := h1
          have hs := hsat C (by simp)
          rw [hl] at hs
          obtain ⟨L', es, clock, hL', hb, hm, _⟩ := hs
          obtain rfl : L = L' := by rw [hL] at hL'; simpa using hL'
          have hb' := view_heap hb
          have hsize : es.size = n := by have := hm.size; simpa using this
          simp [Builtin.len_, hat0, hargs, run_underlying hu, he, getObj, Sem.run, hb', hsize]
      · cases h
    · rename_i hx
      cases h
      exact key 0 [] _ rfl fun ρ own w a h1 _ args hargs => by rw [hx] at h1; obtain ⟨he, _⟩ := h1; simp [Builtin.len_, hat0, hargs, run_underlying hu, he]
    · cases h
  · cases h
end
end Go.Proofs.Ytladpdndjcgebaa.Sx
