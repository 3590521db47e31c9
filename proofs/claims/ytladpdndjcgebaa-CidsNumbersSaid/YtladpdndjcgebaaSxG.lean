/- The operations of the symbolic machine are sound (2): parts, indices, slices, arithmetic. -/
import Derived.Test.YtladpdndjcgebaaSxF
namespace Go.Proofs.Ytladpdndjcgebaa.Sx
set_option linter.unusedVariables false
open Go

section
variable {P : Program} {ty : Ty} {o : Oper} {tm : List SV} {H : List Ch} {p : Prop} {s : SV} {rd : List Nat} {wr : List (Nat × Ch)}

theorem part_run {ρ : Env} {hP : HL} {T off : Nat} {l r : List SV} {cs : Array Value} (hT : TyAt P ty T) (ho : (ty T).k.isOther = false) (h : lslice off (ty T).sz l = some r) (hl : SV.isL ρ hP l cs.toList) (w : World) :
    ∃ v, (part T cs off).run P w = .ok v w ∧ (pack (ty T) r).is ρ hP v := by
  obtain ⟨h1, h2, h3⟩ := lslice_is h hl
  unfold part pack
  simp only [Sem.run_bind, hT.agg_run ho, Result.andThen_ok]
  cases hag : (ty T).agg with
  | true =>
    refine ⟨.agg (cs.extract off (off + (ty T).sz)), by simp [hT.size_run], ⟨_, rfl, ?_⟩⟩
    rw [Array.toList_extract, List.extract_eq_take_drop]
    simpa using h1
  | false =>
    obtain ⟨i, z, _, _, _, _, _, hz, _⟩ := hT.info_run (ty := ty) w
    have hz1 := hz.2.2.2 hag
    have hz2 := hz.2.1
    rw [hz1] at hz2
    have h1' : (ty T).sz = 1 := by rw [← hz2]; rfl
    rw [h1'] at h1 h2
    simp only [Array.length_toList] at h2
    have hlt : off < cs.size := by omega
    have hd : (cs.toList.drop off).take 1 = [cs[off]] := by
      rw [List.drop_eq_getElem_cons (by simpa using hlt)]
      simp
    rw [hd] at h1
    match r, h1 with
    | [x], ⟨u', us, he, hx, hr⟩ =>
      simp only [List.cons.injEq] at he
      obtain ⟨rfl, rfl⟩ := he
      exact ⟨cs[off], by simp [hlt], hx⟩
    | x :: y :: r, ⟨u', us, he, hx, hr⟩ =>
      simp only [List.cons.injEq] at he
      obtain ⟨rfl, rfl⟩ := he
      obtain ⟨_, _, h, _⟩ := hr
      cases h
    | [], h => cases h

theorem sound_field {T f : Nat} {x : Operand} (hT : TyOK P ty) (ho : o.op = .field T x f) (h : opField ty T f (ev tm x) = .ok p s rd wr) : OpOK P o tm H s rd wr := by
  unfold opField at h
  split at h
  · rename_i fs hk
    split at h
    · rename_i off e hf
      split at h
      · cases h
      rename_i hoth
      obtain ⟨fields, fd, hu, hfd, rfl, rfl⟩ := field_of hT hk hf
      have hoth' : (ty fd.type).k.isOther = false := by cases h : (ty fd.type).k.isOther <;> simp_all
      split at h
      · rename_i l hx
        split at h
        · rename_i r hr
          simp only [Res.ok.injEq] at h
          obtain ⟨rfl, rfl, rfl, rfl⟩ := h
          refine OpOK.pure fun ρ own w a hop _ => ?_
          have h1 := hop x (by simp [ho, Op.operands])
          rw [hx] at h1
          obtain ⟨vs, he, hl⟩ := h1
          obtain ⟨v, hr', hv⟩ := part_run (hT fd.type hoth') hoth' hr hl w
          exact ⟨v, by simp [execOp, ho, Instr.field, run_underlying hu, hfd, he, asAgg, hr'], hv⟩
        · cases h
      · cases h
    · cases h
  · cases h

theorem int_is {ρ : Env} {hP : HL} {k : IntKind} {n : Int} {v : Value} (h : (SV.c (.i k n)).is ρ hP v) : v = .int k n := h

theorem sound_indexAddr {T : Nat} {x y : Operand} (hT : TyOK P ty) (ho : o.op = .indexAddr T x y) (h : opIndexAddr ty H T (ev tm x) (ev tm y) = .ok p s rd wr) (hp : p) : OpOK P o tm H s rd wr := by
  have hopx : x ∈ o.op.operands := by simp [ho, Op.operands]
  have hopy : y ∈ o.op.operands := by simp [ho, Op.operands]
  unfold opIndexAddr at h
  split at h
  · rename_i C st len lim k n hx hy
    split at h
    · rename_i e hk
      split at h
      · rename_i T' sz m f hl
        split at h
        · rename_i hsz
          simp only [Res.ok.injEq] at h
          obtain ⟨rfl, rfl, rfl, rfl⟩ := h
          refine OpOK.pure fun ρ own w a hop hs => ?_
          have h1 := hop x hopx; have h2 := hop y hopy
          rw [hx] at h1; rw [hy] at h2
          obtain ⟨L, A, cap, hL, hev, hlc, hA, hcap, _⟩ := h1
          have h2 := int_is h2
          have hsat := hs C (by simp)
          rw [hl] at hsat
          obtain ⟨L', hL', hLs, _⟩ := hsat
          obtain rfl : L = L' := by rw [hL] at hL'; simpa using hL'
          have hA' := hA (by omega)
          have hu := (by simpa [hk] using (hT T (by rw [hk]; rfl)).und : TK.fits P T (.sl e))
          have hse := (hT e hsz.2).size_run (ty := ty) w
          refine ⟨.pointer (some ⟨L.blk, L.off + ((st + n.toNat) * L.sz + 0), none⟩), ?_, ⟨L, hL, rfl⟩⟩
          have hadd : L.off + st * L.sz + n.toNat * (ty e).sz = L.off + ((st + n.toNat) * L.sz + 0) := by rw [Nat.add_mul, hLs, hsz.1]; omega
          simp [execOp, ho, Instr.indexAt, h2, hev, asIntOf, run_underlying (show P.underlying T = some (.slice e) from hu), hA', hp.1, hp.2, hse, addr_add, hadd]
        · cases h
      · cases h
    · cases h
  · rename_i C off sz len cap k n hx hy
    split at h
    · rename_i e hk
      split at h
      · rename_i hsz
        simp only [Res.ok.injEq] at h
        obtain ⟨rfl, rfl, rfl, rfl⟩ := h
        refine OpOK.pure fun ρ own w a hop hs => ?_
        have h1 := hop x hopx; have h2 := hop y hopy
        rw [hx] at h1; rw [hy] at h2
        obtain ⟨L, A, hL, hev, hlc, hA, _⟩ := h1
        have h2 := int_is h2
        have hA' := hA (by omega)
        have hu := (by simpa [hk] using (hT T (by rw [hk]; rfl)).und : TK.fits P T (.sl e))
        have hse := (hT e hsz.2).size_run (ty := ty) w
        refine ⟨.pointer (some ⟨L.blk, L.off + (off + n.toNat * sz), none⟩), ?_, ⟨L, hL, rfl⟩⟩
        have hadd : L.off + off + n.toNat * (ty e).sz = L.off + (off + n.toNat * sz) := by rw [hsz.1]; omega
        simp [execOp, ho, Instr.indexAt, h2, hev, asIntOf, run_underlying (show P.underlying T = some (.slice e) from hu), hA', hp.1, hp.2, hse, addr_add, hadd]
      · cases h
    · cases h
  · rename_i sz len f k n hx hy
    split at h
    · rename_i e hk
      split at h
      · rename_i hsz
        simp only [Res.ok.injEq] at h
        obtain ⟨rfl, rfl, rfl, rfl⟩ := h
        refine OpOK.pure fun ρ own w a hop hs => ?_
        have h1 := hop x hopx; have h2 := hop y hopy
        rw [hx] at h1; rw [hy] at h2
        obtain ⟨A, cap, hev, hlc, blk, off, hA, hcells⟩ := h1
        have h2 := int_is h2
        have hA' := hA (by omega)
        have hu := (by simpa [hk] using (hT T (by rw [hk]; rfl)).und : TK.fits P T (.sl e))
        have hse := (hT e hsz.2).size_run (ty := ty) w
        refine ⟨.pointer (some ⟨blk, off + n.toNat * (ty e).sz, none⟩), ?_, ⟨blk, off + n.toNat * (ty e).sz, rfl, fun j hj => ?_⟩⟩
        · simp [execOp, ho, Instr.indexAt, h2, hev, asIntOf, run_underlying (show P.underlying T = some (.slice e) from hu), hA', hp.1, hp.2, hse, addr_add]
        · obtain ⟨u, hu', hg⟩ := hcells n.toNat (by omega) j hj
          refine ⟨u, ?_, hg⟩
          rw [← hu', hsz.1, Nat.add_assoc]
      · cases h
    · cases h
  · rename_i C off k n hx hy
    split at h
    · rename_i N e hk
      split at h
      · cases h
      rename_i hoth
      have hoth' : (ty e).k.isOther = false := by cases h : (ty e).k.isOther <;> simp_all
      simp only [Res.ok.injEq] at h
      obtain ⟨rfl, rfl, rfl, rfl⟩ := h
      refine OpOK.pure fun ρ own w a hop hs => ?_
      have h1 := hop x hopx; have h2 := hop y hopy
      rw [hx] at h1; rw [hy] at h2
      obtain ⟨L, hL, hev⟩ := h1
      have h2 := int_is h2
      have hu := (by simpa [hk] using (hT T (by rw [hk]; rfl)).und : TK.fits P T (.arr N e))
      have hse := (hT e hoth').size_run (ty := ty) w
      refine ⟨.pointer (some ⟨L.blk, L.off + (off + n.toNat * (ty e).sz), none⟩), ?_, ⟨L, hL, rfl⟩⟩
      simp [execOp, ho, Instr.indexAt, h2, hev, asIntOf, run_underlying (show P.underlying T = some (.array N e) from hu), hp.1, hp.2, hse, addr_add, Instr.sureAddr, Nat.add_assoc]
    · cases h
  · rename_i C i j k n hx hy
    split at h
    · rename_i N e hk
      split at h
      · cases h
      rename_i hoth
      have hoth' : (ty e).k.isOther = false := by cases h : (ty e).k.isOther <;> simp_all
      simp only [Res.ok.injEq] at h
      obtain ⟨rfl, rfl, rfl, rfl⟩ := h
      refine OpOK.pure fun ρ own w a hop hs => ?_
      have h1 := hop x hopx; have h2 := hop y hopy
      rw [hx] at h1; rw [hy] at h2
      obtain ⟨L, hL, hev⟩ := h1
      have h2 := int_is h2
      have hu := (by simpa [hk] using (hT T (by rw [hk]; rfl)).und : TK.fits P T (.arr N e))
      have hse := (hT e hoth').size_run (ty := ty) w
      refine ⟨.pointer (some ⟨L.blk, L.off + (i * L.sz + (j + n.toNat * (ty e).sz)), none⟩), ?_, ⟨L, hL, rfl⟩⟩
      simp [execOp, ho, Instr.indexAt, h2, hev, asIntOf, run_underlying (show P.underlying T = some (.array N e) from hu), hp.1, hp.2, hse, addr_add, Instr.sureAddr, Nat.add_assoc]
    · cases h
  · cases h

theorem sound_index {T : Nat} {x y : Operand} (hT : TyOK P ty) (ho : o.op = .index T x y) (h : opIndex ty T (ev tm x) (ev tm y) = .ok p s rd wr) (hp : p) : OpOK P o tm H s rd wr := by
  have hopx : x ∈ o.op.operands := by simp [ho, Op.operands]
  have hopy : y ∈ o.op.operands := by simp [ho, Op.operands]
  unfold opIndex at h
  split at h
  · rename_i l k n hx hy
    split at h
    · rename_i N e hk
      split at h
      · cases h
      rename_i hoth
      have hoth' : (ty e).k.isOther = false := by cases h : (ty e).k.isOther <;> simp_all
      split at h
      · rename_i r hr
        simp only [Res.ok.injEq] at h
        obtain ⟨rfl, rfl, rfl, rfl⟩ := h
        refine OpOK.pure fun ρ own w a hop hs => ?_
        have h1 := hop x hopx; have h2 := hop y hopy
        rw [hx] at h1; rw [hy] at h2
        obtain ⟨vs, hev, hl⟩ := h1
        have h2 := int_is h2
        have hu := (by simpa [hk] using (hT T (by rw [hk]; rfl)).und : TK.fits P T (.arr N e))
        have hse := (hT e hoth').size_run (ty := ty) w
        obtain ⟨v, hr', hv⟩ := part_run (hT e hoth') hoth' hr hl w
        exact ⟨v, by simp [execOp, ho, Instr.index, h2, hev, asIntOf, run_underlying (show P.underlying T = some (.array N e) from hu), hp.1, hp.2, hse, hr'], hv⟩
      · cases h
    · cases h
  · rename_i l k n hx hy
    split at h
    · rename_i hk
      simp only [Res.ok.injEq] at h
      obtain ⟨rfl, rfl, rfl, rfl⟩ := h
      refine OpOK.pure fun ρ own w a hop hs => ?_
      have h1 := hop x hopx; have h2 := hop y hopy
      rw [hx] at h1; rw [hy] at h2
      have h1 : a.eval x = .string ⟨l.toArray⟩ := h1
      have h2 := int_is h2
      have hu := (by simpa [hk] using (hT T (by rw [hk]; rfl)).und : TK.fits P T .str)
      have hlt : n.toNat < l.length := by omega
      refine ⟨.int .u8 (l[n.toNat].toNat : Int), ?_, ?_⟩
      · have hg : (⟨l.toArray⟩ : ByteArray)[n.toNat]? = some l[n.toNat] := by
          have hsz : n.toNat < (⟨l.toArray⟩ : ByteArray).size := by show n.toNat < l.toArray.size; simpa using hlt
          rw [getElem?_pos (⟨l.toArray⟩ : ByteArray) n.toNat hsz]
          rfl
        simp [execOp, ho, Instr.index, h2, h1, asIntOf, run_underlying (show P.underlying T = some .string from hu), hp.1, hg]
      · show Value.int .u8 _ = Value.int .u8 _
        simp [List.getD, hlt]
    · cases h
  · cases h

theorem bound_run {ρ : Env} {hP : HL} {d l : Int} {lo : Option Operand} {a : Act} (h : bound tm d lo = some l) (hop : ∀ x, lo = some x → (ev tm x).is ρ hP (a.eval x)) :
    (lo = none ∧ l = d) ∨ ∃ x k, lo = some x ∧ a.eval x = .int k l := by
  cases lo with
  | none => left; simp only [bound, Option.some.injEq] at h; exact ⟨rfl, h.symm⟩
  | some x =>
    right
    simp only [bound, intOf] at h
    have h1 := hop x rfl
    split at h
    · rename_i k n hx
      rw [hx] at h1
      simp only [Option.some.injEq] at h
      subst h
      exact ⟨x, k, rfl, h1⟩
    · cases h

theorem sliceBounds_run {lo hi : Option Value} {len cap : Nat} {l h : Int} {b : Bool} {w : World} (hlo : (lo = none ∧ l = 0) ∨ ∃ k, lo = some (.int k l)) (hhi : (hi = none ∧ h = len) ∨ ∃ k, hi = some (.int k h))
    (h0 : 0 ≤ l) (h1 : l ≤ h) (h2 : h ≤ (cap : Int)) : (Instr.sliceBounds b len cap lo hi none).run P w = .ok (l.toNat, h.toNat, cap) w := by
  have h3 : 0 ≤ h := by omega
  have hb : ∀ (k : IntKind) (x : Int) (y : Nat) (c : BoundsCode), 0 ≤ x → x ≤ (y : Int) → (Instr.sliceBound (.int k x) y c).run P w = .ok x.toNat w := by
    intro k x y c hx hy
    simp [Instr.sliceBound, asIntOf, hx, hy]
  have eh := fun k c => hb k h cap c h3 h2
  have el := fun k c => hb k l h.toNat c h0 (by omega)
  clear hb
  rcases hlo with ⟨rfl, rfl⟩ | ⟨k, rfl⟩ <;> rcases hhi with ⟨rfl, rfl⟩ | ⟨k', rfl⟩ <;> (try simp only [Int.toNat_natCast, Int.toNat_zero] at eh el ⊢) <;> simp [Instr.sliceBounds, eh, el]

theorem sliceBounds_run3 {lo hi : Option Value} {len cap : Nat} {l h m : Int} {b : Bool} {w : World} (hlo : (lo = none ∧ l = 0) ∨ ∃ k, lo = some (.int k l)) {kh km : IntKind}
    (hhi : hi = some (.int kh h)) (h0 : 0 ≤ l) (h1 : l ≤ h) (h2 : h ≤ m) (h3 : m ≤ (cap : Int)) : (Instr.sliceBounds b len cap lo hi (some (.int km m))).run P w = .ok (l.toNat, h.toNat, m.toNat) w := by
  have h4 : 0 ≤ h := by omega
  have h5 : 0 ≤ m := by omega
  have hb : ∀ (k : IntKind) (x : Int) (y : Nat) (c : BoundsCode), 0 ≤ x → x ≤ (y : Int) → (Instr.sliceBound (.int k x) y c).run P w = .ok x.toNat w := by
    intro k x y c hx hy
    simp [Instr.sliceBound, asIntOf, hx, hy]
  have em := fun k c => hb k m cap c h5 h3
  have eh := fun k c => hb k h m.toNat c h4 (by omega)
  have el := fun k c => hb k l h.toNat c h0 (by omega)
  clear hb
  subst hhi
  rcases hlo with ⟨rfl, rfl⟩ | ⟨k, rfl⟩ <;> (try simp only [Int.toNat_zero] at el ⊢) <;> simp [Instr.sliceBounds, em, eh, el]

theorem lohi {ρ : Env} {hP : HL} {d l : Int} {lo : Option Operand} {a : Act} (h : bound tm d lo = some l) (hop : ∀ x, lo = some x → (ev tm x).is ρ hP (a.eval x)) :
    (lo.map a.eval = none ∧ l = d) ∨ ∃ k, lo.map a.eval = some (.int k l) := by
  rcases bound_run h hop with ⟨rfl, rfl⟩ | ⟨x, k, rfl, he⟩
  · exact .inl ⟨rfl, rfl⟩
  · exact .inr ⟨k, by simp [he]⟩

theorem nn_if {α : Type} {A : Option α} {c : Prop} [Decidable c] {f : α → α} (h : A ≠ none) : (if c then A else A.map f) ≠ none := by
  cases A with
  | none => exact (h rfl).elim
  | some a => split <;> simp
theorem sound_slice {T : Nat} {x : Operand} {lo hi mx : Option Operand} (hT : TyOK P ty) (ho : o.op = .slice T x lo hi mx) (h : opSlice ty H T tm x lo hi mx = .ok p s rd wr) (hp : p) : OpOK P o tm H s rd wr := by
  have hopx : x ∈ o.op.operands := by simp [ho, Op.operands]
  have hopl : ∀ y, lo = some y → y ∈ o.op.operands := by intro y hy; simp [ho, Op.operands, hy]
  have hoph : ∀ y, hi = some y → y ∈ o.op.operands := by intro y hy; simp [ho, Op.operands, hy]
  have hopm : ∀ y, mx = some y → y ∈ o.op.operands := by intro y hy; simp [ho, Op.operands, hy]
  unfold opSlice at h
  split at h
  · rename_i C st len lim hx
    split at h
    · rename_i e hk
      have hu := (by simpa [hk] using (hT T (by rw [hk]; rfl)).und : TK.fits P T (.sl e))
      have hu : P.underlying T = some (.slice e) := hu
      split at h
      · rename_i T' sz n f hl
        split at h
        · rename_i hsz
          split at h
          · rename_i l hh hbl hbh
            simp only [Res.ok.injEq] at h
            obtain ⟨rfl, rfl, rfl, rfl⟩ := h
            refine OpOK.pure fun ρ own w a hop hs => ?_
            have h1 := hop x hopx
            rw [hx] at h1
            obtain ⟨L, A, cap, hL, hev, hlc, hA, hcap, hlim, hnn⟩ := h1
            have hsat := hs C (by simp)
            rw [hl] at hsat
            obtain ⟨L', hL', hLs, _⟩ := hsat
            obtain rfl : L = L' := by rw [hL] at hL'; simpa using hL'
            have hbr := sliceBounds_run (P := P) (b := true) (len := len) (cap := cap) (w := w) (lohi (a := a) hbl fun y hy => hop y (hopl y hy)) (lohi (a := a) hbh fun y hy => hop y (hoph y hy)) hp.1 hp.2.1 (by omega)
            have hse := (hT e hsz.2).size_run (ty := ty) w
            obtain ⟨l, rfl⟩ := Int.eq_ofNat_of_zero_le hp.1
            obtain ⟨hh, rfl⟩ := Int.eq_ofNat_of_zero_le (show 0 ≤ hh by omega)
            simp only [Int.toNat_natCast, Int.ofNat_le, Nat.zero_le, true_and] at hbr hp ⊢
            refine ⟨.slice (if cap = l then A else A.map (·.add (l * (ty e).sz))) (hh - l) (cap - l), ?_, ⟨L, _, cap - l, hL, rfl, by omega, fun hc => ?_, by omega, ?_, fun hz => nn_if (hnn hz)⟩⟩
            · simp [execOp, ho, Instr.sliceAt, Instr.slice, run_underlying hu, hev, hbr, hse]
            · rw [if_neg (by omega), hA (by omega)]
              simp [addr_add, hLs, hsz.1, Nat.add_mul, Nat.add_assoc]
            · cases lim with
              | none => simp only at hlim ⊢; omega
              | some k => simp only at hlim ⊢; omega
          · rename_i l hh m hbl hbh
            split at h
            · rename_i m' y hm
              simp only [Res.ok.injEq] at h
              obtain ⟨rfl, rfl, rfl, rfl⟩ := h
              refine OpOK.pure fun ρ own w a hop hs => ?_
              have h1 := hop x hopx
              rw [hx] at h1
              obtain ⟨L, A, cap, hL, hev, hlc, hA, hcap, hlim, hnn⟩ := h1
              have hsat := hs C (by simp)
              rw [hl] at hsat
              obtain ⟨L', hL', hLs, _⟩ := hsat
              obtain rfl : L = L' := by rw [hL] at hL'; simpa using hL'
              have hmv : ∃ km, a.eval m = .int km m' := by
                have h5 := hop m (hopm m rfl)
                unfold intOf at hm
                split at hm
                · rename_i k n hk'
                  rw [hk'] at h5
                  simp only [Option.some.injEq] at hm
                  subst hm
                  exact ⟨k, h5⟩
                · cases hm
              obtain ⟨km, hmv⟩ := hmv
              have hhv := lohi (a := a) hbh fun y hy => hop y (hoph y hy)
              obtain ⟨kh, hhv⟩ : ∃ k, (some y : Option Operand).map a.eval = some (.int k hh) := by
                rcases hhv with ⟨h6, _⟩ | h6
                · cases h6
                · exact h6
              have hbr := sliceBounds_run3 (P := P) (b := true) (len := len) (cap := cap) (w := w) (km := km) (lohi (a := a) hbl fun y hy => hop y (hopl y hy)) hhv hp.1 hp.2.1 hp.2.2.1 (by omega)
              have hse := (hT e hsz.2).size_run (ty := ty) w
              obtain ⟨l, rfl⟩ := Int.eq_ofNat_of_zero_le hp.1
              obtain ⟨hh, rfl⟩ := Int.eq_ofNat_of_zero_le (show 0 ≤ hh by omega)
              obtain ⟨m', rfl⟩ := Int.eq_ofNat_of_zero_le (show 0 ≤ m' by omega)
              simp only [Int.toNat_natCast, Int.ofNat_le, Nat.zero_le, true_and] at hbr hp ⊢
              refine ⟨.slice (if m' = l then A else A.map (·.add (l * (ty e).sz))) (hh - l) (m' - l), ?_, ⟨L, _, m' - l, hL, rfl, by omega, fun hc => ?_, by omega, ?_, fun hz => nn_if (hnn hz)⟩⟩
              · simp only [Option.map_some] at hbr hhv
                simp [execOp, ho, Instr.sliceAt, Instr.slice, run_underlying hu, hev, hmv, hbr, hse]
              · rw [if_neg (by omega), hA (by omega)]
                simp [addr_add, hLs, hsz.1, Nat.add_mul, Nat.add_assoc]
              · simp
            · cases h
          · cases h
        · cases h
      · cases h
    · cases h
  · rename_i sz len f hx
    split at h
    · rename_i e hk
      have hu : P.underlying T = some (.slice e) := (by simpa [hk] using (hT T (by rw [hk]; rfl)).und : TK.fits P T (.sl e))
      split at h
      · rename_i hsz
        have key : ∀ (ρ : Env) (hP : HL) w (a : Act) (l hh m cap : Nat) A, l ≤ hh → hh ≤ m → hh ≤ len → len ≤ cap → a.eval x = .slice A len cap →
            (SV.c (.ps sz len f)).is ρ hP (.slice A len cap) → (Instr.sliceBounds true len cap (lo.map a.eval) (hi.map a.eval) (mx.map a.eval)).run P w = .ok (l, hh, m) w →
            ∃ v, (execOp a.eval o).run P w = .ok (.value v) w ∧ (SV.c (.ps sz (hh - l) (sub l f))).is ρ hP v := by
          intro ρ hP w a l hh m cap A hlh hhm hhl hlc hev his hbr
          obtain ⟨A', cap', he, _, blk, off, hA, hcells⟩ := his
          simp only [Value.slice.injEq, true_and] at he
          obtain ⟨rfl, rfl⟩ := he
          have hse := (hT e hsz.2).size_run (ty := ty) w
          refine ⟨.slice (if m = l then A else A.map (·.add (l * (ty e).sz))) (hh - l) (m - l), ?_, ⟨_, _, rfl, by omega, blk, off + l * sz, fun hc => ?_, fun i hi' j hj => ?_⟩⟩
          · simp [execOp, ho, Instr.sliceAt, Instr.slice, run_underlying hu, hev, hbr, hse]
          · rw [if_neg (by omega), hA (by omega)]
            simp [addr_add, hsz.1]
          · obtain ⟨u, hu', hg⟩ := hcells (l + i) (by omega) j hj
            exact ⟨u, by rw [← hu', Nat.add_mul]; congr 1; omega, hg⟩
        split at h
        · rename_i l hh hbl hbh
          simp only [Res.ok.injEq] at h
          obtain ⟨rfl, rfl, rfl, rfl⟩ := h
          refine OpOK.pure fun ρ own w a hop hs => ?_
          have h1 := hop x hopx
          rw [hx] at h1
          have h1' := h1
          obtain ⟨A, cap, hev, hlc, _⟩ := h1
          have hbr := sliceBounds_run (P := P) (b := true) (len := len) (cap := cap) (w := w) (lohi (a := a) hbl fun y hy => hop y (hopl y hy)) (lohi (a := a) hbh fun y hy => hop y (hoph y hy)) hp.1 hp.2.1 (by omega)
          exact key ρ _ w a l.toNat hh.toNat cap cap A (by omega) (by omega) (by omega) hlc hev (hev ▸ h1') hbr
        · rename_i l hh m hbl hbh
          split at h
          · rename_i m' y hm
            simp only [Res.ok.injEq] at h
            obtain ⟨rfl, rfl, rfl, rfl⟩ := h
            refine OpOK.pure fun ρ own w a hop hs => ?_
            have h1 := hop x hopx
            rw [hx] at h1
            have h1' := h1
            obtain ⟨A, cap, hev, hlc, _⟩ := h1
            have hmv : ∃ km, a.eval m = .int km m' := by
              have h5 := hop m (hopm m rfl)
              unfold intOf at hm
              split at hm
              · rename_i k n hk'
                rw [hk'] at h5
                simp only [Option.some.injEq] at hm
                subst hm
                exact ⟨k, h5⟩
              · cases hm
            obtain ⟨km, hmv⟩ := hmv
            have hhv := lohi (a := a) hbh fun y hy => hop y (hoph y hy)
            obtain ⟨kh, hhv⟩ : ∃ k, (some y : Option Operand).map a.eval = some (.int k hh) := by
              rcases hhv with ⟨h6, _⟩ | h6
              · cases h6
              · exact h6
            have hbr := sliceBounds_run3 (P := P) (b := true) (len := len) (cap := cap) (w := w) (km := km) (lohi (a := a) hbl fun y hy => hop y (hopl y hy)) hhv hp.1 hp.2.1 hp.2.2.1 (by omega)
            rw [← hmv] at hbr
            exact key ρ _ w a l.toNat hh.toNat m'.toNat cap A (by omega) (by omega) (by omega) hlc hev (hev ▸ h1') hbr
          · cases h
        · cases h
      · cases h
    · cases h
  · rename_i C off hx
    split at h
    · rename_i N e hk
      split at h
      · cases h
      rename_i hoth
      have hoth' : (ty e).k.isOther = false := by cases h : (ty e).k.isOther <;> simp_all
      have hu : P.underlying T = some (.array N e) := (by simpa [hk] using (hT T (by rw [hk]; rfl)).und : TK.fits P T (.arr N e))
      split at h
      · rename_i l hh hbl hbh
        simp only [Res.ok.injEq] at h
        obtain ⟨rfl, rfl, rfl, rfl⟩ := h
        refine OpOK.pure fun ρ own w a hop hs => ?_
        have h1 := hop x hopx
        rw [hx] at h1
        obtain ⟨L, hL, hev⟩ := h1
        have hse := (hT e hoth').size_run (ty := ty) w
        have hbr := sliceBounds_run (P := P) (b := false) (len := N) (cap := N) (w := w) (lohi (a := a) hbl fun y hy => hop y (hopl y hy)) (lohi (a := a) hbh fun y hy => hop y (hoph y hy)) hp.1 hp.2.1 (by omega)
        obtain ⟨l, rfl⟩ := Int.eq_ofNat_of_zero_le hp.1
        obtain ⟨hh, rfl⟩ := Int.eq_ofNat_of_zero_le (show 0 ≤ hh by omega)
        simp only [Int.toNat_natCast, Int.ofNat_le, Nat.zero_le, true_and] at hbr hp ⊢
        refine ⟨.slice (some (if N = l then ⟨L.blk, L.off + off, none⟩ else (⟨L.blk, L.off + off, none⟩ : Addr).add (l * (ty e).sz))) (hh - l) (N - l), ?_, ⟨L, _, hL, rfl, by omega, fun hc => ?_, by simp⟩⟩
        · simp [execOp, ho, Instr.sliceAt, run_underlying hu, hev, hbr, hse, Instr.sureAddr]
        · rw [if_neg (by omega)]
          simp [addr_add, Nat.add_assoc]
      · cases h
    · cases h
  · rename_i b hx
    split at h
    · rename_i hk
      have hu : P.underlying T = some .string := (by simpa [hk] using (hT T (by rw [hk]; rfl)).und : TK.fits P T .str)
      split at h
      · rename_i l hh hbl hbh
        simp only [Res.ok.injEq] at h
        obtain ⟨rfl, rfl, rfl, rfl⟩ := h
        refine OpOK.pure fun ρ own w a hop hs => ?_
        have h1 := hop x hopx
        rw [hx] at h1
        have h1 : a.eval x = .string ⟨b.toArray⟩ := h1
        have hbr := sliceBounds_run (P := P) (b := false) (len := (⟨b.toArray⟩ : ByteArray).size) (cap := (⟨b.toArray⟩ : ByteArray).size) (w := w) (lohi (a := a) hbl fun y hy => hop y (hopl y hy)) (by
          have := lohi (a := a) hbh fun y hy => hop y (hoph y hy)
          have e : (⟨b.toArray⟩ : ByteArray).size = b.length := by show b.toArray.size = _; simp
          rw [e]; exact this) hp.1 hp.2.1 (by
          have e : (⟨b.toArray⟩ : ByteArray).size = b.length := by show b.toArray.size = _; simp
          rw [e]; exact hp.2.2)
        refine ⟨.string ((⟨b.toArray⟩ : ByteArray).extract l.toNat hh.toNat), ?_, ?_⟩
        · simp [execOp, ho, Instr.sliceAt, Instr.slice, run_underlying hu, h1, hbr]
        · show Value.string _ = Value.string _
          congr 1
          apply ByteArray.ext
          rw [ByteArray.data_extract]
          apply Array.ext'
          rw [Array.toList_extract, List.extract_eq_take_drop]
      · cases h
    · cases h
  · rename_i hx
    split at h
    · rename_i e hk
      split at h
      · cases h
      rename_i hoth
      have hoth' : (ty e).k.isOther = false := by cases h : (ty e).k.isOther <;> simp_all
      have hu : P.underlying T = some (.slice e) := (by simpa [hk] using (hT T (by rw [hk]; rfl)).und : TK.fits P T (.sl e))
      split at h
      · rename_i l hh hbl hbh
        simp only [Res.ok.injEq] at h
        obtain ⟨rfl, rfl, rfl, rfl⟩ := h
        refine OpOK.pure fun ρ own w a hop hs => ?_
        have h1 := hop x hopx
        rw [hx] at h1
        have h1 : a.eval x = .slice none 0 0 := h1.1
        have hse := (hT e hoth').size_run (ty := ty) w
        have hbr := sliceBounds_run (P := P) (b := true) (len := 0) (cap := 0) (w := w) (lohi (a := a) hbl fun y hy => hop y (hopl y hy)) (lohi (a := a) hbh fun y hy => hop y (hoph y hy)) hp.1 hp.2.1 (by omega)
        obtain rfl : l = 0 := by omega
        obtain rfl : hh = 0 := by omega
        refine ⟨.slice none 0 0, ?_, ⟨rfl, rfl⟩⟩
        simp at hbr
        simp [execOp, ho, Instr.sliceAt, Instr.slice, run_underlying hu, h1, hbr, hse]
      · rename_i l hh m hbl hbh
        split at h
        · rename_i m' y hm
          simp only [Res.ok.injEq] at h
          obtain ⟨rfl, rfl, rfl, rfl⟩ := h
          refine OpOK.pure fun ρ own w a hop hs => ?_
          have h1 := hop x hopx
          rw [hx] at h1
          have h1 : a.eval x = .slice none 0 0 := h1.1
          have hmv : ∃ km, a.eval m = .int km m' := by
            have h5 := hop m (hopm m rfl)
            unfold intOf at hm
            split at hm
            · rename_i k n hk'
              rw [hk'] at h5
              simp only [Option.some.injEq] at hm
              subst hm
              exact ⟨k, h5⟩
            · cases hm
          obtain ⟨km, hmv⟩ := hmv
          have hhv := lohi (a := a) hbh fun y hy => hop y (hoph y hy)
          obtain ⟨kh, hhv⟩ : ∃ k, (some y : Option Operand).map a.eval = some (.int k hh) := by
            rcases hhv with ⟨h6, _⟩ | h6
            · cases h6
            · exact h6
          have hbr := sliceBounds_run3 (P := P) (b := true) (len := 0) (cap := 0) (w := w) (km := km) (lohi (a := a) hbl fun y hy => hop y (hopl y hy)) hhv hp.1 hp.2.1 hp.2.2.1 (by omega)
          have hse := (hT e hoth').size_run (ty := ty) w
          obtain rfl : l = 0 := by omega
          obtain rfl : hh = 0 := by omega
          obtain rfl : m' = 0 := by omega
          refine ⟨.slice none 0 0, ?_, ⟨rfl, rfl⟩⟩
          simp only [Option.map_some, Int.toNat_zero] at hbr hhv
          simp [execOp, ho, Instr.sliceAt, Instr.slice, run_underlying hu, h1, hmv, hbr, hse]
        · cases h
      · cases h
    · cases h
  · cases h
end
end Go.Proofs.Ytladpdndjcgebaa.Sx
