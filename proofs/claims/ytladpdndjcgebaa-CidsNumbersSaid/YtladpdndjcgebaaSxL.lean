/- The operations of the symbolic machine are sound (7): memory that is made, written, grown. -/
import Derived.Test.YtladpdndjcgebaaSxK
namespace Go.Proofs.Ytladpdndjcgebaa.Sx
set_option linter.unusedVariables false
open Go

section
variable {P : Program} {ty : Ty} {o : Oper} {tm : List SV} {H : List Ch} {p : Prop} {s : SV} {rd : List Nat} {wr : List (Nat × Ch)}

theorem Stp.of {news wrs : List Nat} {ρ ρ' : Env} {own own' : Nat → Nat} {w w' : World} (hloc : ∀ c, c ∉ news → ρ' c = ρ c)
    (hb : ∀ b ob, w.heap[b]? = some ob → (∀ c ∈ wrs, own b ≠ c + 3) → own' b = own b ∧ w'.heap[b]? = some ob) (hsz : w.heap.size ≤ w'.heap.size) (h1 : w'.os = w.os) (h2 : w'.tape = w.tape) (h3 : w'.output = w.output) :
    Stp news wrs ρ own w ρ' own' w' :=
  ⟨hloc, fun k hk b ob h => by
    have ho := view_own h
    obtain ⟨e1, e2⟩ := hb b ob (view_heap h) (fun c hc he => hk c hc (by rw [← ho, he]))
    unfold view
    rw [if_pos (by rw [e1, ho]), e2], hsz, h1, h2, h3⟩

def Env.set (ρ : Env) (c : Nat) (L : Loc) : Env := fun d => if d = c then some L else ρ d
def own1 (own : Nat → Nat) (b k : Nat) : Nat → Nat := fun b' => if b' = b then k else own b'

theorem lt_of_some {w : World} {b : Nat} {ob : Obj} (h : w.heap[b]? = some ob) : b < w.heap.size := by
  rcases Nat.lt_or_ge b w.heap.size with h1 | h1
  · exact h1
  · rw [Array.getElem?_eq_none h1] at h; cases h

/-- A new block: a new chunk. -/
theorem Stp.new {wrs : List Nat} {ρ : Env} {own : Nat → Nat} {w w' : World} (c : Nat) (L : Loc) (ob : Obj) (hh : w'.heap = w.heap.push ob) (h1 : w'.os = w.os) (h2 : w'.tape = w.tape) (h3 : w'.output = w.output) (hL : L.blk = w.heap.size) :
    Stp [c] wrs ρ own w (ρ.set c L) (own1 own w.heap.size (c + 3)) w' ∧ view (own1 own w.heap.size (c + 3)) (c + 3) w' L.blk = some ob := by
  refine ⟨Stp.of (fun d hd => ?_) (fun b ob' hb _ => ?_) (by rw [hh]; simp) h1 h2 h3, ?_⟩
  · simp only [List.mem_singleton] at hd
    simp [Env.set, hd]
  · have hlt := lt_of_some hb
    refine ⟨by simp only [own1]; rw [if_neg (by omega)], ?_⟩
    rw [hh, Array.getElem?_push, if_neg (by omega)]
    exact hb
  · unfold view own1
    rw [hL, if_pos (by simp), hh, Array.getElem?_push, if_pos rfl]

theorem OpOK.step {rd' : List Nat} (h : ∀ ρ own w (a : Act), (∀ x ∈ o.op.operands, (ev tm x).is ρ (view own 0 w) (a.eval x)) →
      (∀ c, c ∈ rd' ∨ c ∈ wnames wr → (hget H c).sat ρ c (view own 0 w) (view own (c + 3) w)) → (∀ c ∈ newsOf H wr, ρ c = none) →
      ∃ v w' ρ' own', ((execOp a.eval o).run P w = .ok (.value v) w' ∨ (execOp a.eval o).run P w = .ok .skip w' ∧ v = undef) ∧ Stp (newsOf H wr) (wnames wr) ρ own w ρ' own' w' ∧ s.is ρ' (view own' 0 w') v ∧
        ∀ x ∈ wr, x.2.sat ρ' x.1 (view own' 0 w') (view own' (x.1 + 3) w')) : OpOK P o tm H s rd' wr := by
  intro ρ own w a K Q ho hs hn hK
  obtain ⟨v, w', ρ', own', hr, hst, hv, hw⟩ := h ρ own w a ho hs hn
  unfold Oper.wp
  rcases hr with hr | ⟨hr, rfl⟩
  · rw [hr]; exact hK ρ' own' w' v hst hv hw
  · rw [hr]; exact hK ρ' own' w' undef hst hv hw

theorem news_new (H : List Ch) (ch : Ch) : newsOf H [(hlen H, ch)] = [hlen H] := by simp [newsOf, wnames]
theorem news_old {H : List Ch} {C : Nat} (h : hget H C ≠ .none) : hlen H ≤ C → False := fun hc => h (hget_ge H C hc)
theorem news_two {H : List Ch} {C : Nat} (h : hget H C ≠ .none) (a b : Ch) : newsOf H [(C, a), (hlen H, b)] = [hlen H] := by
  have : ¬ hlen H ≤ C := news_old h
  simp [newsOf, wnames, this]
theorem news_one {H : List Ch} {C : Nat} (h : hget H C ≠ .none) (a : Ch) : newsOf H [(C, a)] = [] := by
  have : ¬ hlen H ≤ C := news_old h
  simp [newsOf, wnames, this]

/-- A new variable. -/
theorem sound_new {T : Nat} {l : List SV} {i : Nat} (hr : ∀ ρ own w (a : Act), (∀ x ∈ o.op.operands, (ev tm x).is ρ (view own 0 w) (a.eval x)) → ∃ arr : Array Value, (execOp a.eval o).run P w = .ok (.value (.pointer (some ⟨w.heap.size, 0, none⟩))) (w.alloc (.cells arr T)) ∧ SV.isL ρ (view own 0 w) l arr.toList)
    (hi : i = hlen H) : OpOK P o tm H (.p i 0) [] [(i, .cells T l)] := by
  subst hi
  refine OpOK.step fun ρ own w a hop _ hn => ?_
  rw [news_new] at hn ⊢
  obtain ⟨arr, hrun, hl⟩ := hr ρ own w a hop
  have hfr := hn (hlen H) (by simp)
  obtain ⟨hst, hv⟩ := Stp.new (wrs := wnames [(hlen H, Ch.cells T l)]) (ρ := ρ) (own := own) (w := w) (w' := w.alloc (.cells arr T)) (hlen H) ⟨w.heap.size, 0, l.length, 0⟩ (.cells arr T) rfl rfl rfl rfl rfl
  have hle := hst.envLe hn
  have h0 := hst.sub 0 (by omega)
  refine ⟨_, _, _, _, .inl hrun, hst, ⟨⟨w.heap.size, 0, l.length, 0⟩, by simp [Env.set], rfl⟩, fun x hx => ?_⟩
  simp only [List.mem_singleton] at hx
  subst hx
  exact ⟨⟨w.heap.size, 0, l.length, 0⟩, arr, by simp [Env.set], rfl, rfl, hv, SV.monoL hle h0 _ _ hl⟩

theorem sound_alloc {T : Nat} (hT : TyOK P ty) (ho : o.op = .alloc T) (h : opAlloc (ty T) H T = .ok p s rd wr) : OpOK P o tm H s rd wr := by
  unfold opAlloc at h
  split at h
  · cases h
  rename_i hoth
  cases h
  refine sound_new (fun ρ own w a hop => ?_) rfl
  obtain ⟨i, z, hi, _, _, _, _, hz, hzr⟩ := (hT T hoth).info_run (ty := ty) w
  refine ⟨z.cells, by simp [execOp, ho, Instr.alloc, hzr, newVar, newRow], mapC_is (hz.1 _)⟩

theorem sound_box {T : Nat} {x : Operand} (ho : o.op = .box T x) (hf : flat (cellsOf (ev tm x)) = true) : OpOK P o tm H (.p (hlen H) 0) [] [(hlen H, .cells T (cellsOf (ev tm x)))] := by
  refine sound_new (fun ρ own w a hop => ?_) rfl
  have h1 := hop x (by simp [ho, Op.operands])
  exact ⟨(a.eval x).cells, by simp [execOp, ho, Instr.box, newVar, newRow], (cells_is hf h1).1⟩

theorem rep_is {ρ : Env} {hP : HL} {z : List SV} {zs : List Value} (hz : SV.isL ρ hP z zs) : ∀ n, SV.isL ρ hP (rep n z) (List.replicate n zs).flatten
  | 0 => rfl
  | n + 1 => by simpa [rep, List.replicate_succ] using isL_append hz (rep_is hz n)
theorem zeros_eq (z : Array Value) (hz : 0 < z.size) : ∀ n : Nat, ((Array.range (n * z.size)).map (fun i => z[i % z.size]!)).toList = (List.replicate n z.toList).flatten
  | 0 => by simp
  | n + 1 => by
    have ih := zeros_eq z hz n
    simp only [Array.toList_map, Array.toList_range] at ih ⊢
    rw [Nat.add_mul, Nat.one_mul, List.range_add, List.map_append, ih, List.replicate_succ', List.flatten_append]
    congr 1
    simp only [List.map_map, List.flatten_cons, List.flatten_nil, List.append_nil]
    apply List.ext_getElem?
    intro j
    by_cases hj : j < z.size
    · simp [hj, Nat.mul_add_mod, Nat.mod_eq_of_lt hj, Function.comp, Nat.mul_comm n]
    · simp [hj]

theorem consts_is {hP : HL} {ρ : Env} : ∀ {r : List SV} {ps : List PV} {us : List Value}, consts r = some ps → SV.isL ρ hP r us → listIs hP ps us
  | [], ps, us, h, hu => by simp only [consts, Option.some.injEq] at h; subst h; exact hu
  | x :: r, ps, us, h, ⟨u, us', he, hx, hr⟩ => by
    subst he
    cases x with
    | c q =>
      simp only [consts] at h
      split at h
      · rename_i r' hr'
        simp only [Option.some.injEq] at h
        subst h
        exact ⟨u, us', rfl, hx, consts_is hr' hr⟩
      · cases h
    | _ => simp [consts] at h
theorem pget_is {hP : HL} : ∀ {ps : List PV} {us : List Value} {k : Nat} {u : Value}, listIs hP ps us → us[k]? = some u → (pget ps k).is hP u
  | [], us, k, u, h, hu => by have h : us = [] := h; subst h; simp at hu
  | q :: ps, us, 0, u, ⟨u', us', he, hq, _⟩, hu => by subst he; simp at hu; subst hu; exact hq
  | q :: ps, us, k + 1, u, ⟨u', us', he, _, hr⟩, hu => by subst he; simp at hu; exact (pget_is hr hu : (pget ps k).is hP u)
theorem listIs_length {hP : HL} : ∀ {ps : List PV} {us : List Value}, listIs hP ps us → us.length = ps.length
  | [], us, h => by have h : us = [] := h; subst h; rfl
  | _ :: ps, us, ⟨u, us', he, _, hr⟩ => by subst he; simp [listIs_length hr]

/-- A new row of elements, the first of them known. -/
theorem vec_new {ρ : Env} {hP h : HL} {c : Nat} {L : Loc} {T sz n : Nat} {f : Nat → Nat → PV} {arr : Array Value} {fr : Nat × Nat} (hc : ρ c = some L) (hs : L.sz = sz) (hn : n ≤ L.cap) (hm : L.cap ≤ maxLen)
    (hb : h L.blk = some (.cells arr T fr)) (hfit : L.off + L.cap * sz ≤ arr.size) (hfz : Unfrozen fr arr.size) (hel : ∀ i, i < n → ∀ j, j < sz → ∃ u, arr[L.off + (i * sz + j)]? = some u ∧ (f i j).is hP u) : (Ch.vec T sz n f).sat ρ c hP h :=
  ⟨L, hc, hs, hn, hm, fun _ => ⟨arr, fr, hb, hfit, hfz, hel⟩⟩

theorem unfrozen0 (n : Nat) : Unfrozen (0, 0) n := fun j _ => by simp

theorem sound_buildSlice {T n : Nat} {parts : Array (Nat × Operand)} (hT : TyOK P ty) (ho : o.op = .buildSlice T n parts) (h : opBuildSlice ty H T n tm parts.toList = .ok p s rd wr) : OpOK P o tm H s rd wr := by
  have hopp : ∀ x ∈ parts.toList, x.2 ∈ o.op.operands := by
    intro x hx
    simp only [ho, Op.operands, List.mem_toArray, List.mem_map]
    exact ⟨x, hx, rfl⟩
  unfold opBuildSlice at h
  split at h
  · rename_i e hk
    split at h
    · cases h
    rename_i hc
    have hoth : (ty e).k.isOther = false := by cases h : (ty e).k.isOther <;> simp_all
    have hle : ¬ 16777216 < n * (ty e).sz := fun hx => hc (.inr (.inl hx))
    have hpos : 0 < (ty e).sz := by have : (ty e).sz ≠ 0 := fun hx => hc (.inr (.inr hx)); omega
    split at h
    · rename_i l hf
      split at h
      · rename_i ps hps
        cases h
        refine OpOK.step fun ρ own w a hop _ hn => ?_
        rw [news_new] at hn ⊢
        have hu : P.underlying T = some (.slice e) := und_of hT hk rfl
        obtain ⟨i, z, hi, _, hse', _, _, hz, hzr⟩ := (hT e hoth).info_run (ty := ty) w
        have hse := (hT e hoth).size_run (ty := ty) w
        have hzs := mapC_is (ρ := ρ) (hz.1 (view own 0 w))
        have hzsz : z.cells.size = (ty e).sz := hz.2.1
        have h0 := rep_is hzs n
        rw [← zeros_eq z.cells (by omega) n, hzsz] at h0
        obtain ⟨cs, hfill, his, hcs⟩ := fill_is hf h0 (fun x hx => hop x.2 (hopp x hx))
        rw [← parts_map] at hfill
        have hcs : cs.size = n * (ty e).sz := by rw [hcs]; simp
        obtain ⟨hst, hv⟩ := Stp.new (wrs := wnames [(hlen H, Ch.vec e (ty e).sz n (lit (ty e).sz ps))]) (ρ := ρ) (own := own) (w := w) (w' := w.alloc (.cells cs e)) (hlen H) ⟨w.heap.size, 0, n, (ty e).sz⟩ (.cells cs e) rfl rfl rfl rfl rfl
        have h00 := hst.sub 0 (by omega)
        have hnm : n ≤ maxLen := by
          have : n * 1 ≤ n * (ty e).sz := Nat.mul_le_mul_left _ hpos
          unfold maxLen; omega
        refine ⟨.slice (some ⟨w.heap.size, 0, none⟩) n n, w.alloc (.cells cs e), _, _, .inl ?_, hst, ⟨⟨w.heap.size, 0, n, (ty e).sz⟩, _, n, by simp [Env.set], rfl, Nat.le_refl _, fun _ => by simp, by simp, by simp⟩, fun x hx => ?_⟩
        · simp only [execOp, ho]
          have hzif : (if n * (ty e).sz = 0 then Pure.pure #[] else do Pure.pure (← zeroValue e).cells : Sem (Array Value)).run P w = .ok (if n * (ty e).sz = 0 then #[] else z.cells) w := by
            split <;> simp [hzr]
          by_cases hn0 : n * (ty e).sz = 0
          · have e0 : Array.range 0 = #[] := rfl
            simp only [hn0, e0, Array.map_empty] at hfill
            change Instr.fill (fun i => some (i * (ty e).sz, (ty e).sz)) _ _ = _ at hfill
            simp only [Instr.buildSlice, Sem.run_bind, run_underlying hu, Result.andThen_ok, hse, hn0, if_true, Sem.run_pure]
            simp only [e0, Array.map_empty, hfill]
            simp [newRow]
          · change Instr.fill (fun i => some (i * (ty e).sz, (ty e).sz)) _ _ = _ at hfill
            rw [← hzsz] at hfill
            have hif : ¬ n * (ty e).sz > 2 ^ 24 := by omega
            simp only [Instr.buildSlice, Sem.run_bind, run_underlying hu, Result.andThen_ok, hse, if_neg hn0, if_neg hif, Sem.run_pure, hzr]
            rw [← hzsz, hfill]
            simp [newRow]
        · simp only [List.mem_singleton] at hx
          subst hx
          refine vec_new (L := ⟨w.heap.size, 0, n, (ty e).sz⟩) (by simp [Env.set]) rfl (Nat.le_refl _) hnm hv (by simp only; omega) (unfrozen0 _) (fun i hi j hj => ?_)
          have hk : i * (ty e).sz + j < cs.size := by
            have := Nat.mul_le_mul_right (ty e).sz (show i + 1 ≤ n by omega)
            rw [Nat.add_mul] at this
            omega
          refine ⟨cs[i * (ty e).sz + j], by simp [hk], ?_⟩
          exact PV.mono h00 _ _ (pget_is (consts_is hps his) (by simp [hk]))
      · cases h
    · cases h
  · cases h
end
end Go.Proofs.Ytladpdndjcgebaa.Sx
