/- The operations of the symbolic machine are sound (9): append. -/
import Derived.Test.YtladpdndjcgebaaSxM
namespace Go.Proofs.Ytladpdndjcgebaa.Sx
set_option linter.unusedVariables false
open Go

section
variable {P : Program} {ty : Ty} {o : Oper} {tm : List SV} {H : List Ch} {p : Prop} {s : SV} {rd : List Nat} {wr : List (Nat × Ch)}

def plainSrc (P : Program) (S : Nat) : Prop := (∃ e, P.underlying S = some (.slice e)) ∨ P.underlying S = some .string

theorem run_app_room {T S e : Nat} {ty' : Nat} (hu : P.underlying T = some (.slice e)) (hS : plainSrc P S) {sz : Nat} (hse : ∀ w, (sizeOf e).run P w = .ok sz w) {hP : HL} {w : World} {n : Nat} {f : Nat → Nat → PV} {v : Value} {news : List Value}
    (hv : SrcIs P hP w sz n f v news) {b off sLen sCap : Nat} {cur : Array Value} {t : TypeId} {fr : Nat × Nat} (hg : w.heap[b]? = some (.cells cur t fr)) (hf : Unfrozen fr cur.size) (hroom : sLen + n ≤ sCap) (hfit : off + sCap * sz ≤ cur.size) :
    (Builtin.append_ #[T, S] ty' #[.slice (some ⟨b, off, none⟩) sLen sCap, v]).run P w =
      .ok (.slice (some ⟨b, off, none⟩) (sLen + n) sCap) (w.setRow b (cur.toList.take (off + sLen * sz) ++ news ++ cur.toList.drop (off + sLen * sz + news.length)).toArray) := by
  have h1 := hv.first n (Nat.le_refl _) w rfl
  have hall : news.take (n * sz) = news := by rw [← hv.len]; exact List.take_length
  rw [hall] at h1
  have hmul : (sLen + n) * sz ≤ sCap * sz := Nat.mul_le_mul_right _ hroom
  rw [Nat.add_mul] at hmul
  have hst := run_storeCells_un (P := P) b (off + sLen * sz) t fr news 0 cur w hg hf (by rw [hv.len]; omega) hv.one
  simp only [Nat.add_zero] at hst
  have hl := hv.lenRun w
  rcases hS with ⟨e', hd⟩ | hd <;> simp [Builtin.append_, run_underlying hu, run_underlying hd, hse, hl, hroom, h1, addr_add, hst]

theorem run_app_none {T S e : Nat} {ty' : Nat} (hu : P.underlying T = some (.slice e)) (hS : plainSrc P S) {sz : Nat} (hse : ∀ w, (sizeOf e).run P w = .ok sz w) {hP : HL} {w : World} {f : Nat → Nat → PV} {v : Value} {news : List Value}
    (hv : SrcIs P hP w sz 0 f v news) {A : Option Addr} {sLen sCap : Nat} (hroom : sLen ≤ sCap) : (Builtin.append_ #[T, S] ty' #[.slice A sLen sCap, v]).run P w = .ok (.slice A sLen sCap) w := by
  have h1 := hv.first 0 (Nat.le_refl _) w rfl
  have hl := hv.lenRun w
  rcases hS with ⟨e', hd⟩ | hd <;> cases A <;> simp [Builtin.append_, run_underlying hu, run_underlying hd, hse, hl, hroom, h1, storeCells]

theorem run_app_grow {T S e : Nat} {ty' : Nat} (hu : P.underlying T = some (.slice e)) (hS : plainSrc P S) {i : TypeInfo} {z : Value} (hi : P.info? e = some i) (hz : i.zero = some z) {hP hP' : HL} {w : World} {n : Nat} {f f' : Nat → Nat → PV} {v : Value} {news olds : List Value}
    (hv : SrcIs P hP w i.size n f v news) {A : Option Addr} {sLen sCap : Nat} (hd' : SrcIs P hP' w i.size sLen f' (.slice A sLen sCap) olds) (hg : sCap < sLen + n) (h63 : sLen + n ≤ 9223372036854775807) (hb : (sLen + n) * i.bytes ≤ 140737488355328) :
    (Builtin.append_ #[T, S] ty' #[.slice A sLen sCap, v]).run P w =
      .ok (.slice (some ⟨w.heap.size, 0, none⟩) (sLen + n) (grownCap w (sLen + n) sCap e))
        (w.drew.alloc (.cells (olds.toArray ++ news.toArray ++ Builtin.zeroCells z.cells (grownCap w (sLen + n) sCap e - (sLen + n))) e)) := by
  have h1 := hv.first n (Nat.le_refl _) w.drew rfl
  have h2 := hd'.first sLen (Nat.le_refl _) w.drew rfl
  have hall : news.take (n * i.size) = news := by rw [← hv.len]; exact List.take_length
  have hall2 : olds.take (sLen * i.size) = olds := by rw [← hd'.len]; exact List.take_length
  rw [hall] at h1
  rw [hall2] at h2
  have hl := hv.lenRun w
  have hn : ¬ (sLen + n ≤ sCap) := by omega
  have h63' : ¬ (9223372036854775807 < ((sLen : Int) + (n : Int))) := by omega
  have hfit := growslice_fits (old := sCap) hg hb
  have h48' : ¬ (281474976710656 < Builtin.nextslicecap (sLen + n) sCap * i.bytes) := by omega
  have hdr : ({ w with drawn := w.drawn + 1 } : World) = w.drew := rfl
  rcases hS with ⟨e', hd⟩ | hd <;>
    simp [Builtin.append_, run_underlying hu, run_underlying hd, sizeOf, typeInfo, zeroValue, hi, hz, hl, hn, h63', h48', Question.forced, h1, h2, newRow, grownCap] <;> (congr 2; apply Array.ext'; simp [List.append_assoc])

theorem app_el {hP : HL} {n m sz : Nat} {f g : Nat → Nat → PV} {olds news : List Value} (ho : olds.length = n * sz) (h1 : ∀ i, i < n → ∀ j, j < sz → ∃ u, olds[i * sz + j]? = some u ∧ (f i j).is hP u)
    (h2 : ∀ i, i < m → ∀ j, j < sz → ∃ u, news[i * sz + j]? = some u ∧ (g i j).is hP u) : ∀ i, i < n + m → ∀ j, j < sz → ∃ u, (olds ++ news)[i * sz + j]? = some u ∧ (app n f g i j).is hP u := by
  intro i hi j hj
  unfold app
  by_cases hin : i < n
  · rw [if_pos hin]
    obtain ⟨u, hu, hf⟩ := h1 i hin j hj
    refine ⟨u, ?_, hf⟩
    have hlt : i * sz + j < olds.length := (List.getElem?_eq_some_iff.1 hu).1
    rw [List.getElem?_append_left hlt]
    exact hu
  · rw [if_neg hin]
    obtain ⟨u, hu, hf⟩ := h2 (i - n) (by omega) j hj
    refine ⟨u, ?_, hf⟩
    have hge : n * sz ≤ i * sz := Nat.mul_le_mul_right _ (by omega)
    rw [List.getElem?_append_right (by omega), ← hu, ho, Nat.sub_mul]
    congr 1
    omega

theorem sound_append {T S : Nat} {d x : Operand} {c : Call} (hT : TyOK P ty) (hS : plainSrc P S) (ho : o.op = .call c) (hc : c.callee = .builtin .append) (ha : c.args.toList = [d, x]) (hat : c.argTypes.toList = [T, S])
    (h : opAppend ty H T (ev tm d) (ev tm x) = .ok p s rd wr) (hp : p) : OpOK P o tm H s rd wr := by
  have hargs : c.args = #[d, x] := by rw [← Array.toArray_toList (xs := c.args), ha]
  have hats : c.argTypes = #[T, S] := by rw [← Array.toArray_toList (xs := c.argTypes), hat]
  have hopd : d ∈ o.op.operands := by simp [ho, Op.operands, Call.operands, hc, hargs]
  have hopx : x ∈ o.op.operands := by simp [ho, Op.operands, Call.operands, hc, hargs]
  have hex : ∀ (a : Act) (w w' : World) (v : Value), (Builtin.append_ #[T, S] o.type #[a.eval d, a.eval x]).run P w = .ok v w' → (execOp a.eval o).run P w = .ok (.value v) w' := by
    intro a w w' v hr
    simp only [execOp, ho, resolve, hc, Sem.run_bind, Sem.run_pure, Result.andThen_ok, invoke, builtin, hargs, hats]
    simp only [List.map_toArray, List.map_cons, List.map_nil, hr, Result.andThen_ok]
  unfold opAppend at h
  split at h
  case h_2 => cases h
  rename_i e hk
  have hu : P.underlying T = some (.slice e) := und_of hT hk rfl
  split at h
  · cases h
  rename_i hne
  have hoth : (ty e).k.isOther = false := by cases h : (ty e).k.isOther <;> simp_all
  have hpos : 0 < (ty e).sz := by have : (ty e).sz ≠ 0 := fun hx => hne (.inl hx); omega
  have hse := fun w => (hT e hoth).size_run (ty := ty) w
  obtain ⟨inf, z, hi, hisz, hiby, hiz, hzr⟩ := (hT e hoth).info
  have hzsz : z.cells.size = (ty e).sz := hzr.2.1
  split at h
  case h_2 => cases h
  rename_i m g rdx vc hsrc
  -- what a new row of the two lists is
  have grown : ∀ (ρ : Env) (own : Nat → Nat) (w : World) (a : Act) (A : Option Addr) (sLen sCap : Nat) (f' : Nat → Nat → PV) (olds news : List Value) (wrs : List Nat) , a.eval d = .slice A sLen sCap →
      SrcIs P (view own 0 w) w (ty e).sz m g (a.eval x) news → SrcIs P (view own 0 w) w (ty e).sz sLen f' (.slice A sLen sCap) olds → sCap < sLen + m → sLen + m ≤ 9223372036854775807 → (sLen + m) * (ty e).by_ ≤ 140737488355328 →
      ∃ v w' ρ' own', (execOp a.eval o).run P w = .ok (.value v) w' ∧ Stp [hlen H] wrs ρ own w ρ' own' w' ∧ (SV.sl (hlen H) 0 (sLen + m) none).is ρ' (view own' 0 w') v ∧ (Ch.vec e (ty e).sz (sLen + m) (app sLen f' g)).sat ρ' (hlen H) (view own' 0 w') (view own' (hlen H + 3) w') := by
    intro ρ own w a A sLen sCap f' olds news wrs hev hn hod hg h63 hb
    rw [← hisz] at hn hod
    rw [← hiby] at hb
    have hr := run_app_grow (ty' := o.type) hu hS hi hiz hn hod hg h63 hb
    rw [← hev] at hr
    have hge := grownCap_ge w (sLen + m) sCap e
    have hle := grownCap_le_maxLen w (sLen + m) sCap e (by unfold maxLen; omega)
    obtain ⟨hst, hv⟩ := Stp.new (wrs := wrs) (ρ := ρ) (own := own) (w := w) (w' := w.drew.alloc (.cells (olds.toArray ++ news.toArray ++ Builtin.zeroCells z.cells (grownCap w (sLen + m) sCap e - (sLen + m))) e)) (hlen H)
      ⟨w.heap.size, 0, grownCap w (sLen + m) sCap e, (ty e).sz⟩ _ rfl rfl rfl rfl rfl
    have h0 := hst.sub 0
    refine ⟨_, _, _, _, hex a w _ _ hr, hst, ⟨⟨w.heap.size, 0, grownCap w (sLen + m) sCap e, (ty e).sz⟩, _, grownCap w (sLen + m) sCap e, by simp [Env.set], rfl, hge, fun _ => by simp, by simp, by simp⟩, ?_⟩
    have hsize : (olds.toArray ++ news.toArray ++ Builtin.zeroCells z.cells (grownCap w (sLen + m) sCap e - (sLen + m))).size = grownCap w (sLen + m) sCap e * (ty e).sz := by
      simp only [Array.size_append, List.size_toArray, size_zeroCells, hzsz, hn.len, hod.len, hisz, ← Nat.add_mul]
      congr 1
      omega
    refine vec_new (L := ⟨w.heap.size, 0, grownCap w (sLen + m) sCap e, (ty e).sz⟩) (by simp [Env.set]) rfl hge hle hv (by rw [hsize]; simp) (unfrozen0 _) (fun i hi' j hj => ?_)
    obtain ⟨u, hu', hf⟩ := app_el (n := sLen) (m := m) (sz := (ty e).sz) (by rw [hod.len, hisz]) (by rw [← hisz]; exact hod.el) (by rw [← hisz]; exact hn.el) i hi' j hj
    refine ⟨u, ?_, PV.mono (h0 (by omega)) _ _ hf⟩
    simp only [Nat.zero_add]
    rw [← Array.getElem?_toList]
    simp only [Array.toList_append]
    rw [List.getElem?_append_left (by simpa using (List.getElem?_eq_some_iff.1 hu').1)]
    exact hu'
  split at h
  · -- onto nil
    rename_i hdv
    cases h
    obtain ⟨hvc, hby, h63⟩ := hp
    refine OpOK.step (wr := [(hlen H, _)]) fun ρ own w a hop hs hn => ?_
    rw [news_new] at hn ⊢
    have h1 := hop d hopd
    rw [hdv] at h1
    obtain ⟨hev, _⟩ := h1
    obtain ⟨news, hnews⟩ := src_is (P := P) hsrc hvc hpos (hop x hopx) (fun c hc => hs c (.inl hc))
    rcases Nat.eq_zero_or_pos m with rfl | hm
    · have hr := run_app_none (ty' := o.type) hu hS hse hnews (A := none) (sLen := 0) (sCap := 0) (Nat.le_refl _)
      rw [← hev] at hr
      refine ⟨_, w, ρ.set (hlen H) ⟨0, 0, 0, (ty e).sz⟩, own, .inl (hex a w w _ hr), ⟨fun c hc => by simp only [List.mem_singleton] at hc; simp [Env.set, hc], fun _ _ => HL.le_refl _, Nat.le_refl _, rfl, rfl, rfl⟩, ?_, fun y hy => ?_⟩
      · rw [hev]
        exact ⟨⟨0, 0, 0, (ty e).sz⟩, none, 0, by simp [Env.set], rfl, Nat.le_refl _, by simp, by simp, by simp⟩
      · simp only [List.mem_singleton] at hy
        subst hy
        exact ⟨⟨0, 0, 0, (ty e).sz⟩, by simp [Env.set], rfl, by simp, by simp, by simp⟩
    · have hold : SrcIs P (view own 0 w) w (ty e).sz 0 (fun _ _ => .x) (.slice none 0 0) [] := ⟨by simp, by simp, by simp, fun w' => by simp [Builtin.lenOf], fun m hm w' _ => by simp [Builtin.firstCells]⟩
      obtain ⟨v, w', ρ', own', hr, hst, hv, hsat⟩ := grown ρ own w a none 0 0 _ [] news (wnames [(hlen H, Ch.vec e (ty e).sz m g)]) hev hnews hold (by omega) (by omega) (by simpa using hby)
      rw [Nat.zero_add] at hv hsat
      refine ⟨v, w', ρ', own', .inl hr, hst, hv, fun y hy => ?_⟩
      simp only [List.mem_singleton] at hy
      subst hy
      have e0 : app 0 (fun _ _ => PV.x) g = g := by funext i j; simp [app]
      rw [e0] at hsat
      exact hsat
  · -- onto a row of the call's own
    rename_i C st len hdv
    split at h
    case h_2 => cases h
    rename_i T' sz n f hl
    split at h
    case isFalse => cases h
    rename_i hszT
    obtain ⟨hsz, hTe⟩ := hszT
    cases h
    obtain ⟨hvc, hle, hby, h63⟩ := hp
    refine OpOK.step fun ρ own w a hop hs hn => ?_
    rw [news_two (by rw [hl]; simp)] at hn ⊢
    have h1 := hop d hopd
    rw [hdv] at h1
    have h1' := h1
    obtain ⟨L, A, cap, hL, hev, hlc, hA, hcap, hlim, hnn⟩ := h1
    simp only at hlim
    obtain ⟨news, hnews⟩ := src_is (P := P) hsrc hvc hpos (hop x hopx) (fun c hc => hs c (.inl hc))
    have hsatC := hs C (.inr (by simp [wnames]))
    have holds : ∃ olds, SrcIs P (view own 0 w) w (ty e).sz len (sub st f) (a.eval d) olds := by
      have hs' : srcOf (ty e).sz H (.sl C st len none) = some (len, sub st f, [C], st + len ≤ n) := by simp [srcOf, hl, hsz]
      exact src_is (P := P) hs' hle hpos h1' (fun c hc => by simp only [List.mem_singleton] at hc; subst hc; exact hsatC)
    obtain ⟨olds, holds⟩ := holds
    rw [hl] at hsatC
    obtain ⟨L', hL', hLs, hn', hcapm, hrest⟩ := hsatC
    obtain rfl : L = L' := by rw [hL] at hL'; simpa using hL'
    have hCne : C ≠ hlen H := by
      intro he
      have := hget_ge H C (by omega)
      rw [hl] at this
      cases this
    by_cases hroom : len + m ≤ cap
    · rcases Nat.eq_zero_or_pos cap with hc0 | hc0
      · -- no room is wanted
        obtain rfl : len = 0 := by omega
        obtain rfl : m = 0 := by omega
        have hr := run_app_none (ty' := o.type) hu hS hse hnews (A := A) (sLen := 0) (sCap := cap) (by omega)
        rw [← hev] at hr
        refine ⟨_, w, ρ.set (hlen H) ⟨0, 0, 0, (ty e).sz⟩, own, .inl (hex a w w _ hr), ⟨fun c hc => by simp only [List.mem_singleton] at hc; simp [Env.set, hc], fun _ _ => HL.le_refl _, Nat.le_refl _, rfl, rfl, rfl⟩, ?_, fun y hy => ?_⟩
        · rw [hev]
          exact ⟨⟨0, 0, 0, (ty e).sz⟩, A, cap, by simp [Env.set], rfl, by omega, by omega, by simp; omega, by simp; omega⟩
        · simp only [List.mem_cons, List.not_mem_nil, or_false] at hy
          rcases hy with rfl | rfl
          · trivial
          · exact ⟨⟨0, 0, 0, (ty e).sz⟩, by simp [Env.set], rfl, by simp, by simp, by simp⟩
      · -- in place
        obtain ⟨arr, fr, hb, hfit, hfz, hcells⟩ := hrest (by omega)
        have hA' := hA hc0
        subst hA'
        have hmc : (st + cap) * sz = L.cap * sz := by rw [hlim]
        rw [Nat.add_mul] at hmc
        have hfit' : L.off + st * L.sz + cap * (ty e).sz ≤ arr.size := by rw [hLs, ← hsz]; omega
        have hr := run_app_room (ty' := o.type) hu hS hse hnews (sLen := len) (sCap := cap) (view_heap hb) hfz hroom hfit'
        rw [← hev] at hr
        have hown := view_own hb
        let w' := w.setRow L.blk (arr.toList.take (L.off + st * L.sz + len * (ty e).sz) ++ news ++ arr.toList.drop (L.off + st * L.sz + len * (ty e).sz + news.length)).toArray
        let L2 : Loc := ⟨L.blk, L.off + st * L.sz, cap, (ty e).sz⟩
        have hmul : (len + m) * (ty e).sz ≤ cap * (ty e).sz := Nat.mul_le_mul_right _ hroom
        rw [Nat.add_mul] at hmul
        have hst : Stp [hlen H] (wnames [(C, Ch.none), (hlen H, Ch.vec e (ty e).sz (len + m) (app len (sub st f) g))]) ρ own w (ρ.set (hlen H) L2) (own1 own L.blk (hlen H + 3)) w' := by
          refine Stp.of (fun c hc => by simp only [List.mem_singleton] at hc; simp [Env.set, hc]) (fun b ob hbb hno => ?_) (by rw [setRow_size]; exact Nat.le_refl _) rfl rfl rfl
          have hne : b ≠ L.blk := by rintro rfl; exact hno C (by simp [wnames]) hown
          exact ⟨by simp [own1, hne], by rw [setRow_other w L.blk b _ hne]; exact hbb⟩
        have h0 := hst.sub 0 (by omega)
        have hv : view (own1 own L.blk (hlen H + 3)) (hlen H + 3) w' L.blk = some (.cells (arr.toList.take (L.off + st * L.sz + len * (ty e).sz) ++ news ++ arr.toList.drop (L.off + st * L.sz + len * (ty e).sz + news.length)).toArray T' fr) := by
          unfold view own1
          rw [if_pos (by simp)]
          exact setRow_heap w L.blk arr _ T' fr (view_heap hb)
        have hsize : (arr.toList.take (L.off + st * L.sz + len * (ty e).sz) ++ news ++ arr.toList.drop (L.off + st * L.sz + len * (ty e).sz + news.length)).toArray.size = arr.size := by
          have := hnews.len
          simp
          omega
        refine ⟨_, w', _, _, .inl (hex a w w' _ hr), hst, ⟨L2, _, cap, by simp [Env.set], rfl, hroom, fun _ => by simp [L2], by simp [L2], by simp [L2]⟩, fun y hy => ?_⟩
        simp only [List.mem_cons, List.not_mem_nil, or_false] at hy
        rcases hy with rfl | rfl
        · trivial
        · rw [hTe] at hv
          refine vec_new (L := L2) (by simp [Env.set]) rfl hroom (by simp only [L2]; omega) hv (by rw [hsize]; exact hfit') (by rw [hsize]; exact hfz) (fun i hi' j hj => ?_)
          simp only [L2]
          have hij : i * (ty e).sz + j < (len + m) * (ty e).sz := by
            have := Nat.mul_le_mul_right (ty e).sz (show i + 1 ≤ len + m by omega)
            rw [Nat.add_mul, Nat.one_mul] at this
            omega
          rw [Nat.add_mul] at hij
          rw [List.getElem?_toArray]
          have hmin : min (L.off + st * L.sz + len * (ty e).sz) arr.toList.length = L.off + st * L.sz + len * (ty e).sz := by rw [Array.length_toList]; omega
          unfold app
          by_cases hin : i < len
          · rw [if_pos hin]
            obtain ⟨u, hu', hf⟩ := hcells (st + i) (by omega) j (by omega)
            refine ⟨u, ?_, PV.mono h0 _ _ hf⟩
            have hk2 : i * (ty e).sz + j < len * (ty e).sz := by
              have := Nat.mul_le_mul_right (ty e).sz (show i + 1 ≤ len by omega)
              rw [Nat.add_mul, Nat.one_mul] at this
              omega
            rw [List.append_assoc, List.getElem?_append_left (by rw [List.length_take, hmin]; omega), List.getElem?_take, if_pos (by omega), Array.getElem?_toList, ← hu', hLs, ← hsz, Nat.add_mul]
            congr 1
            omega
          · rw [if_neg hin]
            obtain ⟨u, hu', hf⟩ := hnews.el (i - len) (by omega) j hj
            refine ⟨u, ?_, PV.mono h0 _ _ hf⟩
            have hge : len * (ty e).sz ≤ i * (ty e).sz := Nat.mul_le_mul_right _ (by omega)
            have hlt2 : (i - len) * (ty e).sz + j < news.length := (List.getElem?_eq_some_iff.1 hu').1
            rw [Nat.sub_mul] at hlt2 hu'
            rw [List.append_assoc, List.getElem?_append_right (by rw [List.length_take, hmin]; omega), List.length_take, hmin, List.getElem?_append_left (by omega), ← hu']
            congr 1
            omega
    · -- a new row
      rw [hev] at holds
      obtain ⟨v, w', ρ', own', hr, hst, hv, hsat⟩ := grown ρ own w a A len cap _ olds news (wnames [(C, Ch.none), (hlen H, Ch.vec e (ty e).sz (len + m) (app len (sub st f) g))]) hev hnews holds (by omega) h63 hby
      refine ⟨v, w', ρ', own', .inl hr, hst, hv, fun y hy => ?_⟩
      simp only [List.mem_cons, List.not_mem_nil, or_false] at hy
      rcases hy with rfl | rfl
      · trivial
      · exact hsat
  · -- onto a cut with a bound of its own
    rename_i C st len k hdv
    split at h
    case h_2 => cases h
    rename_i T' sz n f hl
    split at h
    case isFalse => cases h
    rename_i hsz
    cases h
    obtain ⟨hvc, hk', hle, hby, h63⟩ := hp
    refine OpOK.step (wr := [(hlen H, _)]) fun ρ own w a hop hs hn => ?_
    rw [news_new] at hn ⊢
    have h1 := hop d hopd
    rw [hdv] at h1
    have h1' := h1
    obtain ⟨L, A, cap, hL, hev, hlc, hA, hcap, hlim, hnn⟩ := h1
    simp only at hlim
    obtain ⟨news, hnews⟩ := src_is (P := P) hsrc hvc hpos (hop x hopx) (fun c hc => hs c (.inl (by simp [hc])))
    have hsatC := hs C (.inl (by simp))
    obtain ⟨olds, holds⟩ : ∃ olds, SrcIs P (view own 0 w) w (ty e).sz len (sub st f) (a.eval d) olds := by
      have hs' : srcOf (ty e).sz H (.sl C st len (some k)) = some (len, sub st f, [C], st + len ≤ n) := by simp [srcOf, hl, hsz]
      exact src_is (P := P) hs' hle hpos h1' (fun c hc => by simp only [List.mem_singleton] at hc; subst hc; exact hsatC)
    rw [hev] at holds
    obtain ⟨v, w', ρ', own', hr, hst, hv, hsat⟩ := grown ρ own w a A len cap _ olds news (wnames [(hlen H, Ch.vec e (ty e).sz (len + m) (app len (sub st f) g))]) hev hnews holds (by omega) h63 hby
    refine ⟨v, w', ρ', own', .inl hr, hst, hv, fun y hy => ?_⟩
    simp only [List.mem_singleton] at hy
    subst hy
    exact hsat
  · cases h
end
end Go.Proofs.Ytladpdndjcgebaa.Sx
