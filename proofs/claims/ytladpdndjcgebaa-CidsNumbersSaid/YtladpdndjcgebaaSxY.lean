/- Calls: a function's contract, used where the function is called; names of memory are the callee's own, and are turned into the caller's. -/
import Derived.Test.YtladpdndjcgebaaSxX
namespace Go.Proofs.Ytladpdndjcgebaa.Sx
set_option linter.unusedVariables false
open Go

/-- The caller's names of the callee's chunks: those handed over, then new ones from h on. -/
def sig : List Nat → Nat → Nat → Nat
  | [], h, k => h + k
  | x :: _, _, 0 => x
  | _ :: l, h, k + 1 => sig l h k

mutual
def SV.ren (σ : Nat → Nat) : SV → SV
  | .c P => .c P
  | .top => .top
  | .p C off => .p (σ C) off
  | .q C i j => .q (σ C) i j
  | .pe n g => .pe n g
  | .sl C b0 len lim => .sl (σ C) b0 len lim
  | .sc C off sz len cap => .sc (σ C) off sz len cap
  | .m C => .m (σ C)
  | .st C => .st (σ C)
  | .a l => .a (SV.renL σ l)
  | .t l => .t (SV.renL σ l)
  | .fn f l => .fn f (SV.renL σ l)
def SV.renL (σ : Nat → Nat) : List SV → List SV
  | [] => []
  | s :: l => SV.ren σ s :: SV.renL σ l
end
def renSt (σ : Nat → Nat) : List (Nat × List Int) → List (Nat × List Int)
  | [] => []
  | (c, k) :: l => (σ c, k) :: renSt σ l
def Ch.ren (σ : Nat → Nat) : Ch → Ch
  | .none => .none
  | .cells T l => .cells T (SV.renL σ l)
  | .vec T sz n f => .vec T sz n f
  | .map k n g sts => .map k n g (renSt σ sts)
  | .pred A => .pred A
  | .vs T sz l => .vs T sz (SV.renL σ l)
def renH (σ : Nat → Nat) : List Ch → List Ch
  | [] => []
  | c :: l => Ch.ren σ c :: renH σ l
def selH (H : List Ch) : List Nat → List Ch
  | [] => []
  | i :: l => hget H i :: selH H l
def wrOf (σ : Nat → Nat) : Nat → List Ch → List (Nat × Ch)
  | _, [] => []
  | k, c :: l => (σ k, Ch.ren σ c) :: wrOf σ (k + 1) l

mutual
def SV.bnd (n : Nat) : SV → Bool
  | .p C _ => decide (C < n)
  | .q C _ _ => decide (C < n)
  | .sl C _ _ _ => decide (C < n)
  | .sc C _ _ _ _ => decide (C < n)
  | .m C => decide (C < n)
  | .st C => decide (C < n)
  | .a l => SV.bndL n l
  | .t l => SV.bndL n l
  | .fn _ l => SV.bndL n l
  | .c _ => true
  | .top => true
  | .pe _ _ => true
def SV.bndL (n : Nat) : List SV → Bool
  | [] => true
  | s :: l => SV.bnd n s && SV.bndL n l
end
def Ch.bnd (n : Nat) : Ch → Bool
  | .cells _ l => SV.bndL n l
  | .vs _ _ l => SV.bndL n l
  | .map _ _ _ sts => sts.all fun x => decide (x.1 < n)
  | _ => true
def bndH (n : Nat) : List Ch → Bool
  | [] => true
  | c :: l => Ch.bnd n c && bndH n l
def nodupB : List Nat → Bool
  | [] => true
  | x :: l => !(l.contains x) && nodupB l
def callChk (h : Nat) (pre : List Ch) (idx : List Nat) (args : List SV) : Bool :=
  decide (idx.length = hlen pre) && nodupB idx && (idx.all fun i => decide (i < h)) && SV.bndL (hlen pre) args && bndH (hlen pre) pre

mutual
theorem SV.ren_is {σ : Nat → Nat} {ρ ρ' : Env} {hP hP' : HL} (hr : ∀ k l, ρ k = some l → ρ' (σ k) = some l) (hk : HL.le hP hP') : ∀ (s : SV) (y : Value), s.is ρ hP y → (s.ren σ).is ρ' hP' y
  | .c P, y, h => PV.mono hk P y h
  | .top, _, h => h
  | .p C off, y, ⟨l, h1, h2⟩ => ⟨l, hr _ _ h1, h2⟩
  | .q C i j, y, ⟨l, h1, h2⟩ => ⟨l, hr _ _ h1, h2⟩
  | .pe n g, y, ⟨blk, off, h1, h2⟩ => ⟨blk, off, h1, fun j hj => let ⟨u, hu, hg⟩ := h2 j hj; ⟨u, hcell_mono hk hu, PV.mono hk _ _ hg⟩⟩
  | .sl C start len lim, y, ⟨l, A, cap, h1, h2⟩ => ⟨l, A, cap, hr _ _ h1, h2⟩
  | .sc C off _ len cap, y, ⟨l, A, h1, h2⟩ => ⟨l, A, hr _ _ h1, h2⟩
  | .m C, y, ⟨l, h1, h2⟩ => ⟨l, hr _ _ h1, h2⟩
  | .st C, y, ⟨l, h1, h2⟩ => ⟨l, hr _ _ h1, h2⟩
  | .a L, y, ⟨vs, h1, h2⟩ => ⟨vs, h1, SV.renL_is hr hk L _ h2⟩
  | .t L, y, ⟨vs, h1, h2⟩ => ⟨vs, h1, SV.renL_is hr hk L _ h2⟩
  | .fn f L, y, ⟨vs, h1, h2⟩ => ⟨vs, h1, SV.renL_is hr hk L _ h2⟩
theorem SV.renL_is {σ : Nat → Nat} {ρ ρ' : Env} {hP hP' : HL} (hr : ∀ k l, ρ k = some l → ρ' (σ k) = some l) (hk : HL.le hP hP') : ∀ (l : List SV) (ys : List Value), SV.isL ρ hP l ys → SV.isL ρ' hP' (SV.renL σ l) ys
  | [], _, h => h
  | s :: l, _, ⟨u, us, h1, h2, h3⟩ => ⟨u, us, h1, SV.ren_is hr hk s u h2, SV.renL_is hr hk l us h3⟩
end

theorem renSt_mem {σ : Nat → Nat} : ∀ {sts : List (Nat × List Int)} {x : Nat × List Int}, x ∈ renSt σ sts → ∃ c, (c, x.2) ∈ sts ∧ x.1 = σ c
  | [], _, h => by simp [renSt] at h
  | (c, k) :: l, x, h => by
    simp only [renSt, List.mem_cons] at h
    rcases h with rfl | h
    · exact ⟨c, by simp, rfl⟩
    · obtain ⟨c', h1, h2⟩ := renSt_mem h
      exact ⟨c', by simp [h1], h2⟩
theorem mem_renSt {σ : Nat → Nat} : ∀ {sts : List (Nat × List Int)} {x : Nat × List Int}, x ∈ sts → (σ x.1, x.2) ∈ renSt σ sts
  | [], _, h => by simp at h
  | (c, k) :: l, x, h => by
    simp only [List.mem_cons] at h
    rcases h with rfl | h
    · simp [renSt]
    · simp [renSt, mem_renSt h]

theorem Ch.ren_sat {σ : Nat → Nat} {ρ ρ' : Env} {hP hP' h h' : HL} (hr : ∀ k l, ρ k = some l → ρ' (σ k) = some l) (hk : HL.le hP hP') (hh : HL.le h h') {c : Nat} : ∀ {ch : Ch}, ch.sat ρ c hP h → (ch.ren σ).sat ρ' (σ c) hP' h'
  | .none, hs => hs
  | .cells T l, ⟨L, arr, h1, h2, h2', h3, h4⟩ => by
      have hl : (SV.renL σ l).length = l.length := by
        have := isL_length h4
        have h5 := isL_length (SV.renL_is hr hk _ _ h4)
        omega
      exact ⟨L, arr, hr _ _ h1, h2, by rw [hl]; exact h2', hh _ _ h3, SV.renL_is hr hk _ _ h4⟩
  | .vec T sz n f, ⟨L, h1, h2, h3, h4, h5⟩ => ⟨L, hr _ _ h1, h2, h3, h4, fun hc => by
      obtain ⟨arr, fr, h6, h7, h8, h9⟩ := h5 hc
      refine ⟨arr, fr, hh _ _ h6, h7, h8, fun i hi j hj => ?_⟩
      obtain ⟨u, hu, hf⟩ := h9 i hi j hj
      exact ⟨u, hu, PV.mono hk _ _ hf⟩⟩
  | .map k n g stamps, ⟨L, es, cl, h1, h2, h3, h4⟩ => ⟨L, es, cl, hr _ _ h1, hh _ _ h2, h3.mono hk, fun x hx => by
      obtain ⟨c', hc', he⟩ := renSt_mem hx
      obtain ⟨l, h5, h6⟩ := h4 _ hc'
      rw [he]
      exact ⟨l, hr _ _ h5, h6⟩⟩
  | .pred A, ⟨L, h1, h2⟩ => ⟨L, hr _ _ h1, A.mono _ _ _ _ _ hk hh h2⟩
  | .vs T sz l, ⟨L, h1, h2, h3, h4, hz, h5⟩ => by
      have hl : (SV.renL σ l).length = l.length := by
        clear h3 h5 hz
        induction l with
        | nil => rfl
        | cons a l ih => simp [SV.renL, ih]
      refine ⟨L, hr _ _ h1, h2, by rw [hl]; exact h3, h4, fun h0 => by rw [hz h0]; rfl, fun hc => ?_⟩
      obtain ⟨arr, fr, h6, h7, h8, us, h9, h10⟩ := h5 hc
      exact ⟨arr, fr, hh _ _ h6, h7, h8, us, SV.renL_is hr hk _ _ h9, h10⟩

/-! ### back: from the caller's names to the callee's -/
mutual
theorem SV.back {σ : Nat → Nat} {n : Nat} {ρ ρ' : Env} {hP : HL} (hr : ∀ k, k < n → ρ' k = ρ (σ k)) : ∀ (s : SV) (y : Value), s.bnd n = true → (s.ren σ).is ρ hP y → s.is ρ' hP y
  | .c P, y, _, h => h
  | .top, _, _, h => h
  | .p C off, y, hb, ⟨l, h1, h2⟩ => ⟨l, (hr C (of_decide_eq_true hb)).trans h1, h2⟩
  | .q C i j, y, hb, ⟨l, h1, h2⟩ => ⟨l, (hr C (of_decide_eq_true hb)).trans h1, h2⟩
  | .pe n g, y, _, h => h
  | .sl C start len lim, y, hb, ⟨l, A, cap, h1, h2⟩ => ⟨l, A, cap, (hr C (of_decide_eq_true hb)).trans h1, h2⟩
  | .sc C off _ len cap, y, hb, ⟨l, A, h1, h2⟩ => ⟨l, A, (hr C (of_decide_eq_true hb)).trans h1, h2⟩
  | .m C, y, hb, ⟨l, h1, h2⟩ => ⟨l, (hr C (of_decide_eq_true hb)).trans h1, h2⟩
  | .st C, y, hb, ⟨l, h1, h2⟩ => ⟨l, (hr C (of_decide_eq_true hb)).trans h1, h2⟩
  | .a L, y, hb, ⟨vs, h1, h2⟩ => ⟨vs, h1, SV.backL hr L _ hb h2⟩
  | .t L, y, hb, ⟨vs, h1, h2⟩ => ⟨vs, h1, SV.backL hr L _ hb h2⟩
  | .fn f L, y, hb, ⟨vs, h1, h2⟩ => ⟨vs, h1, SV.backL hr L _ hb h2⟩
theorem SV.backL {σ : Nat → Nat} {n : Nat} {ρ ρ' : Env} {hP : HL} (hr : ∀ k, k < n → ρ' k = ρ (σ k)) : ∀ (l : List SV) (ys : List Value), SV.bndL n l = true → SV.isL ρ hP (SV.renL σ l) ys → SV.isL ρ' hP l ys
  | [], _, _, h => h
  | s :: l, _, hb, ⟨u, us, h1, h2, h3⟩ => by
    simp only [SV.bndL, Bool.and_eq_true] at hb
    exact ⟨u, us, h1, SV.back hr s u hb.1 h2, SV.backL hr l us hb.2 h3⟩
end

theorem renL_length (σ : Nat → Nat) : ∀ l : List SV, (SV.renL σ l).length = l.length
  | [] => rfl
  | s :: l => by simp [SV.renL, renL_length σ l]

theorem Ch.back {σ : Nat → Nat} {n : Nat} {ρ ρ' : Env} {hP h : HL} (hr : ∀ k, k < n → ρ' k = ρ (σ k)) {c : Nat} (hc : c < n) : ∀ {ch : Ch}, ch.bnd n = true → (ch.ren σ).sat ρ (σ c) hP h → ch.sat ρ' c hP h
  | .none, _, hs => hs
  | .cells T l, hb, ⟨L, arr, h1, h2, h2', h3, h4⟩ => ⟨L, arr, (hr c hc).trans h1, h2, by rw [renL_length] at h2'; exact h2', h3, SV.backL hr _ _ hb h4⟩
  | .vec T sz n f, _, ⟨L, h1, h5⟩ => ⟨L, (hr c hc).trans h1, h5⟩
  | .map k n g stamps, hb, ⟨L, es, cl, h1, h2, h3, h4⟩ => ⟨L, es, cl, (hr c hc).trans h1, h2, h3, fun x hx => by
      obtain ⟨l, h5, h6⟩ := h4 _ (mem_renSt hx)
      refine ⟨l, (hr x.1 ?_).trans h5, h6⟩
      have := List.all_eq_true.1 hb x hx
      exact of_decide_eq_true this⟩
  | .pred A, _, ⟨L, h1, h2⟩ => ⟨L, (hr c hc).trans h1, h2⟩
  | .vs T sz l, hb, ⟨L, h1, h2, h3, h4, hz, h5⟩ => by
      refine ⟨L, (hr c hc).trans h1, h2, by rw [renL_length] at h3; exact h3, h4, fun h0 => ?_, fun hc => ?_⟩
      · have := hz h0
        cases l with
        | nil => rfl
        | cons a l => simp [SV.renL] at this
      · obtain ⟨arr, fr, h6, h7, h8, us, h9, h10⟩ := h5 hc
        exact ⟨arr, fr, h6, h7, h8, us, SV.backL hr _ _ hb h9, h10⟩

/-! ### what says less -/
def SLe (s s' : SV) : Prop := ∀ ρ hP y, s.is ρ hP y → s'.is ρ hP y
def SLeL : List SV → List SV → Prop
  | [], [] => True
  | a :: l, b :: r => SLe a b ∧ SLeL l r
  | _, _ => False
def CLe (c c' : Ch) : Prop := ∀ ρ k hP h, c.sat ρ k hP h → c'.sat ρ k hP h
def HLe : List Ch → List Ch → Prop
  | [], [] => True
  | a :: l, b :: r => CLe a b ∧ HLe l r
  | _, _ => False
theorem SLe_refl (s : SV) : SLe s s := fun _ _ _ h => h
theorem SLe_top (s : SV) : SLe s .top := fun _ _ _ _ => trivial
theorem CLe_refl (c : Ch) : CLe c c := fun _ _ _ _ h => h
theorem CLe_none (c : Ch) : CLe c .none := fun _ _ _ _ _ => trivial
theorem SLeL_refl : ∀ l : List SV, SLeL l l
  | [] => trivial
  | s :: l => ⟨SLe_refl s, SLeL_refl l⟩
theorem HLe_refl : ∀ l : List Ch, HLe l l
  | [] => trivial
  | s :: l => ⟨CLe_refl s, HLe_refl l⟩
theorem SLeL.is : ∀ {l l' : List SV}, SLeL l l' → ∀ {ρ : Env} {hP : HL} {vs : List Value}, SV.isL ρ hP l vs → SV.isL ρ hP l' vs
  | [], [], _, _, _, _, h => h
  | a :: l, b :: r, ⟨h1, h2⟩, _, _, _, ⟨u, us, e, h3, h4⟩ => ⟨u, us, e, h1 _ _ _ h3, SLeL.is h2 h4⟩
  | [], _ :: _, h, _, _, _, _ => h.elim
  | _ :: _, [], h, _, _, _, _ => h.elim
theorem HLe.hget : ∀ {l l' : List Ch}, HLe l l' → ∀ k, CLe (hget l k) (hget l' k)
  | [], [], _, k => CLe_refl _
  | a :: l, b :: r, ⟨h1, h2⟩, 0 => h1
  | a :: l, b :: r, ⟨h1, h2⟩, k + 1 => HLe.hget h2 k
  | [], _ :: _, h, _ => h.elim
  | _ :: _, [], h, _ => h.elim
theorem CLe_cells {T : Nat} {l l' : List SV} (h : SLeL l l') : CLe (.cells T l) (.cells T l') := fun ρ k hP hh ⟨L, arr, h1, h2, h3, h4, h5⟩ => by
  have e1 := isL_length h5
  have e2 := isL_length (h.is h5)
  exact ⟨L, arr, h1, h2, by omega, h4, h.is h5⟩
theorem CLe_vec {T sz n : Nat} {f g : Nat → Nat → PV} (h : ∀ i, i < n → ∀ j, j < sz → f i j = g i j) : CLe (.vec T sz n f) (.vec T sz n g) := fun ρ k hP hh ⟨L, h1, h2, h3, h4, h5⟩ => ⟨L, h1, h2, h3, h4, fun hc => by
  obtain ⟨arr, fr, h6, h7, h8, h9⟩ := h5 hc
  refine ⟨arr, fr, h6, h7, h8, fun i hi j hj => ?_⟩
  rw [← h i hi j hj]
  exact h9 i hi j hj⟩
theorem CLe_pred {c : Ch} {A : Asrt} (h : ∀ ρ k hP h, c.sat ρ k hP h → ∃ L, ρ k = some L ∧ A.p L hP h) : CLe c (.pred A) := fun ρ k hP hh hs => h ρ k hP hh hs

/-! ### names -/
theorem sig_ge : ∀ (idx : List Nat) (h k : Nat), idx.length ≤ k → sig idx h k = h + (k - idx.length)
  | [], h, k, _ => by simp [sig]
  | _ :: l, h, 0, hk => by simp at hk
  | _ :: l, h, k + 1, hk => by simp only [sig, List.length_cons]; rw [sig_ge l h k (by simpa using hk)]; omega
theorem sig_lt : ∀ (idx : List Nat) (h k : Nat) (hk : k < idx.length), sig idx h k = idx[k]
  | [], h, k, hk => by simp at hk
  | _ :: l, h, 0, _ => rfl
  | _ :: l, h, k + 1, hk => by simp only [sig, List.getElem_cons_succ]; exact sig_lt l h k (by simpa using hk)
theorem nodup_of : ∀ {l : List Nat}, nodupB l = true → l.Nodup
  | [], _ => by simp
  | x :: l, h => by
    simp only [nodupB, Bool.and_eq_true, Bool.not_eq_true', List.contains_eq_mem, decide_eq_false_iff_not] at h
    exact List.nodup_cons.2 ⟨h.1, nodup_of h.2⟩
theorem hget_sel : ∀ {H : List Ch} {idx : List Nat} (k : Nat), (hk : k < idx.length) → hget (selH H idx) k = hget H idx[k]
  | H, [], k, hk => by simp at hk
  | H, i :: l, 0, hk => rfl
  | H, i :: l, k + 1, hk => hget_sel (idx := l) k (by simpa using hk)
theorem hget_ren {σ : Nat → Nat} : ∀ (pre : List Ch) (k : Nat), hget (renH σ pre) k = (hget pre k).ren σ
  | [], _ => rfl
  | c :: pre, 0 => rfl
  | c :: pre, k + 1 => hget_ren pre k
theorem hget_selH {H : List Ch} {idx : List Nat} {σ : Nat → Nat} {pre : List Ch} (h : HLe (selH H idx) (renH σ pre)) (k : Nat) (hk : k < idx.length) : CLe (hget H idx[k]) ((hget pre k).ren σ) := by
  have := h.hget k
  rwa [hget_sel k hk, hget_ren] at this
theorem hget_bnd : ∀ {n : Nat} {pre : List Ch} (k : Nat), bndH n pre = true → (hget pre k).bnd n = true
  | _, [], k, _ => rfl
  | _, c :: l, 0, h => by simp only [bndH, Bool.and_eq_true] at h; exact h.1
  | _, c :: l, k + 1, h => by simp only [bndH, Bool.and_eq_true] at h; exact hget_bnd k h.2
theorem wrOf_mem {σ : Nat → Nat} : ∀ {l : List Ch} {k : Nat} {x : Nat × Ch}, x ∈ wrOf σ k l → ∃ j, j < hlen l ∧ x = (σ (k + j), (hget l j).ren σ)
  | [], _, _, h => by simp [wrOf] at h
  | c :: l, k, x, h => by
    simp only [wrOf, List.mem_cons] at h
    rcases h with rfl | h
    · exact ⟨0, by simp [hlen], rfl⟩
    · obtain ⟨j, h1, h2⟩ := wrOf_mem h
      refine ⟨j + 1, by simp [hlen]; omega, ?_⟩
      rw [h2, show k + 1 + j = k + (j + 1) by omega]
      rfl
theorem mem_wrOf {σ : Nat → Nat} : ∀ {l : List Ch} {k j : Nat}, j < hlen l → (σ (k + j), (hget l j).ren σ) ∈ wrOf σ k l
  | [], _, _, h => by simp [hlen] at h
  | c :: l, k, 0, h => by simp [wrOf, hget]
  | c :: l, k, j + 1, h => by
    simp only [wrOf, List.mem_cons]
    right
    have := mem_wrOf (σ := σ) (l := l) (k := k + 1) (j := j) (by simpa [hlen] using h)
    rwa [show k + 1 + j = k + (j + 1) by omega] at this

section
variable {P : Program} {f : FuncId} {args : List SV} {pre : List Ch} {Post : SV → List Ch → Prop} {idx : List Nat} {tm : List SV} {H : List Ch} {o : Oper} {c : Call} {g : Operand} {caps : List SV}

open Classical in
/-- The owners, as the callee sees them: the chunks handed over are its own, the rest is the frame. -/
noncomputable def ownC (idx : List Nat) (own : Nat → Nat) (b : Nat) : Nat :=
  if own b = 0 then 0 else if h : ∃ k, ∃ hk : k < idx.length, own b = idx[k] + 3 then h.choose + 3 else 1

theorem ownC_zero {own : Nat → Nat} {b : Nat} : ownC idx own b = 0 ↔ own b = 0 := by
  unfold ownC
  split
  · simp [*]
  · rename_i h0
    simp only [h0, iff_false]
    split <;> omega
theorem ownC_at (hn : idx.Nodup) {own : Nat → Nat} {b k : Nat} (hk : k < idx.length) : ownC idx own b = k + 3 ↔ own b = idx[k] + 3 := by
  unfold ownC
  split
  · rename_i h0; rw [h0]; omega
  · split
    · rename_i h0 h
      obtain ⟨hk', he⟩ := h.choose_spec
      constructor
      · intro h1
        have h2 : h.choose = k := by omega
        rw [he]
        congr 1
        exact getElem_congr rfl h2 _
      · intro h1
        have : idx[k] = idx[h.choose] := by omega
        have := (List.getElem_inj hn).1 this
        omega
    · rename_i h0 h
      constructor
      · intro h1; omega
      · intro h1; exact (h ⟨k, hk, h1⟩).elim

/-- What is handed over, in the callee's names. -/
theorem hand_over {ρ : Env} {own : Nat → Nat} {w : World} (hlen1 : idx.length = hlen pre) (hnd : idx.Nodup) (hbh : bndH (hlen pre) pre = true) (hH : HLe (selH H idx) (renH (sig idx (hlen H)) pre)) (hsat : ∀ i ∈ idx, (hget H i).sat ρ i (view own 0 w) (view own (i + 3) w)) :
    ∃ ρc : Env, (∀ k, k < hlen pre → ρc k = ρ (sig idx (hlen H) k)) ∧ (∀ k, hlen pre ≤ k → ρc k = none) ∧ view (ownC idx own) 0 w = view own 0 w ∧ SatH ρc (ownC idx own) w pre := by
  have hσ1 : ∀ k (hk : k < idx.length), sig idx (hlen H) k = idx[k] := fun k hk => sig_lt idx _ k hk
  have hρc : ∀ k, k < hlen pre → (fun k => if k < idx.length then ρ (sig idx (hlen H) k) else none) k = ρ (sig idx (hlen H) k) := fun k hk => by simp only; rw [if_pos (by omega)]
  have hview0 : view (ownC idx own) 0 w = view own 0 w := by
    funext b
    unfold view
    by_cases h0 : own b = 0
    · rw [if_pos h0, if_pos (ownC_zero.2 h0)]
    · rw [if_neg h0, if_neg (fun h => h0 (ownC_zero.1 h))]
  have hviewk : ∀ k (hk : k < idx.length), view (ownC idx own) (k + 3) w = view own (sig idx (hlen H) k + 3) w := fun k hk => by
    funext b
    unfold view
    rw [hσ1 k hk]
    by_cases h0 : own b = idx[k] + 3
    · rw [if_pos h0, if_pos ((ownC_at hnd hk).2 h0)]
    · rw [if_neg h0, if_neg (fun h => h0 ((ownC_at hnd hk).1 h))]
  refine ⟨_, hρc, fun k hk => if_neg (by omega), hview0, fun k => ?_⟩
  rcases Nat.lt_or_ge k (hlen pre) with hk | hk
  · have hki : k < idx.length := by omega
    have h1 := hget_selH hH k hki _ _ _ _ (hsat idx[k] (List.getElem_mem hki))
    rw [← hσ1 k hki] at h1
    rw [hview0, hviewk k hki]
    exact Ch.back hρc hk (hget_bnd k hbh) h1
  · rw [hget_ge pre k hk]; trivial

/-- What comes back, in the caller's names. -/
theorem hand_back {ρ ρc ρ1 : Env} {own own1 : Nat → Nat} {w w' : World} {chs : List Ch} (hlen1 : idx.length = hlen pre) (hlt : ∀ i ∈ idx, i < hlen H) (hρc : ∀ k, k < hlen pre → ρc k = ρ (sig idx (hlen H) k))
    (hview0 : view (ownC idx own) 0 w = view own 0 w) (hsince : Since (hlen pre) ⟨ρc, ownC idx own, w⟩ ρ1 own1 w') (hnone : ∀ c, hlen chs ≤ c → ρ1 c = none) (hsat1 : SatH ρ1 own1 w' chs) :
    ∃ ρ' own', Stp (newsOf H (wrOf (sig idx (hlen H)) 0 chs)) (idx ++ wnames (wrOf (sig idx (hlen H)) 0 chs)) ρ own w ρ' own' w' ∧ (∀ (r : SV) (v : Value), r.is ρ1 (view own1 0 w') v → (r.ren (sig idx (hlen H))).is ρ' (view own' 0 w') v) ∧
      ∀ x ∈ wrOf (sig idx (hlen H)) 0 chs, x.2.sat ρ' x.1 (view own' 0 w') (view own' (x.1 + 3) w') := by
  generalize hσ : sig idx (hlen H) = σ at *
  have hσ1 : ∀ k (hk : k < idx.length), σ k = idx[k] := fun k hk => by rw [← hσ]; exact sig_lt idx _ k hk
  have hσ2 : ∀ k, idx.length ≤ k → σ k = hlen H + (k - idx.length) := fun k hk => by rw [← hσ]; exact sig_ge idx _ k hk
  have hσlt : ∀ k, k < idx.length → σ k < hlen H := fun k hk => by rw [hσ1 k hk]; exact hlt _ (List.getElem_mem hk)
  have hn : ∀ k, k < idx.length → ρ1 k = ρ (σ k) := fun k hk => by rw [hsince.loc k (by omega)]; exact hρc k (by omega)
  let ρ' : Env := fun q => if hlen H ≤ q ∧ q < hlen H + (hlen chs - idx.length) then ρ1 (q - hlen H + idx.length) else ρ q
  let own' : Nat → Nat := fun b => if own1 b = 0 then 0 else if 3 ≤ own1 b ∧ own1 b - 3 < hlen chs then σ (own1 b - 3) + 3 else if b < w.heap.size then own b else 1
  have hρ' : ∀ k l, ρ1 k = some l → ρ' (σ k) = some l := fun k l hkl => by
    rcases Nat.lt_or_ge k idx.length with hk | hk
    · have := hσlt k hk
      simp only [ρ']
      rw [if_neg (by omega), ← hn k hk]
      exact hkl
    · have hkc : k < hlen chs := by
        rcases Nat.lt_or_ge k (hlen chs) with h | h
        · exact h
        · rw [hnone k h] at hkl; cases hkl
      have := hσ2 k hk
      simp only [ρ']
      rw [if_pos (by omega), show σ k - hlen H + idx.length = k by omega]
      exact hkl
  have h0 : HL.le (view own1 0 w') (view own' 0 w') := fun b ob hb => by
    have e1 := view_own hb
    have e2 := view_heap hb
    have e3 : own' b = 0 := by simp only [own']; rw [if_pos e1]
    unfold view
    rw [if_pos e3]
    exact e2
  have hk' : ∀ k, k < hlen chs → HL.le (view own1 (k + 3) w') (view own' (σ k + 3) w') := fun k hk b ob hb => by
    have e1 := view_own hb
    have e2 := view_heap hb
    have e3 : own' b = σ k + 3 := by simp only [own']; rw [if_neg (by omega), if_pos (by omega), show own1 b - 3 = k by omega]
    unfold view
    rw [if_pos e3]
    exact e2
  refine ⟨ρ', own', ⟨fun q hq => ?_, fun k hk b ob hb => ?_, hsince.size, hsince.os, hsince.tape, hsince.output⟩, fun r v hr => SV.ren_is hρ' h0 r v hr, fun x hx => ?_⟩
  · by_cases hc : hlen H ≤ q ∧ q < hlen H + (hlen chs - idx.length)
    · exfalso
      apply hq
      simp only [newsOf, List.mem_filter, decide_eq_true_eq, wnames, List.mem_map]
      have hm := mem_wrOf (σ := σ) (l := chs) (k := 0) (j := q - hlen H + idx.length) (by omega)
      have hσq := hσ2 (q - hlen H + idx.length) (by omega)
      refine ⟨⟨_, hm, ?_⟩, hc.1⟩
      simp only [Nat.zero_add]
      omega
    · simp only [ρ']
      rw [if_neg hc]
  · have e1 := view_own hb
    have e2 := view_heap hb
    have hbs := lt_of_some e2
    by_cases hk0 : k = 0
    · subst hk0
      have := hsince.sub 0 (by omega) b ob (by simp only; rw [hview0]; exact hb)
      exact h0 b ob this
    · have hone : ownC idx own b = 1 := by
        unfold ownC
        rw [if_neg (by omega), dif_neg]
        rintro ⟨j, hj, he⟩
        exact hk idx[j] (List.mem_append_left _ (List.getElem_mem hj)) (by rw [← e1, he])
      have h1 := hsince.sub 1 (by omega) b ob (by simp only; unfold view; rw [if_pos hone]; exact e2)
      have e3 := view_own h1
      have e4 := view_heap h1
      have e5 : own' b = k := by simp only [own']; rw [if_neg (by omega), if_neg (by omega), if_pos hbs, e1]
      unfold view
      rw [if_pos e5]
      exact e4
  · obtain ⟨j, hj, rfl⟩ := wrOf_mem hx
    simp only [Nat.zero_add]
    exact Ch.ren_sat hρ' h0 (hk' j hj) (hsat1 j)

/-- THE CALL: what the contract says, in the caller's names. -/
theorem call_wp (hs : Spec P f args pre Post) (hchk : callChk (hlen H) pre idx args = true) (hH : HLe (selH H idx) (renH (sig idx (hlen H)) pre)) (ho : o.op = .call c) (hc : c.callee = .value g) (hev : ev tm g = .fn f caps)
    (hA : SLeL (evs tm c.args.toList ++ caps) (SV.renL (sig idx (hlen H)) args)) {ρ : Env} {own : Nat → Nat} {w : World} {a : Act} {K : Act → World → Prop} {Q : Exit → Act → World → Prop}
    (hop : ∀ x ∈ o.op.operands, (ev tm x).is ρ (view own 0 w) (a.eval x)) (hsat : ∀ i ∈ idx, (hget H i).sat ρ i (view own 0 w) (view own (i + 3) w))
    (hK : ∀ r chs ρ' own' w' v, Post r chs → Stp (newsOf H (wrOf (sig idx (hlen H)) 0 chs)) (idx ++ wnames (wrOf (sig idx (hlen H)) 0 chs)) ρ own w ρ' own' w' → (r.ren (sig idx (hlen H))).is ρ' (view own' 0 w') v →
      (∀ x ∈ wrOf (sig idx (hlen H)) 0 chs, x.2.sat ρ' x.1 (view own' 0 w') (view own' (x.1 + 3) w')) → K (a.put o.dst v) w') : o.wp P a w K Q := by
  unfold callChk at hchk
  simp only [Bool.and_eq_true, decide_eq_true_eq, List.all_eq_true] at hchk
  obtain ⟨⟨⟨⟨hlen1, hnd⟩, hlt⟩, hba⟩, hbh⟩ := hchk
  have hnd := nodup_of hnd
  obtain ⟨⟨fn, hfn, hname, hbody⟩, hs⟩ := hs
  have hg := hop g (by simp [ho, Op.operands, Call.operands, hc])
  rw [hev] at hg
  obtain ⟨cs, hgv, hcs⟩ := hg
  have hargs := isL_append (evs_is (a := a) (l := c.args.toList) fun x hx => hop x (by simp only [ho, Op.operands, Call.operands, hc]; simp at hx ⊢; exact .inr hx)) hcs
  have hargs := hA.is hargs
  have hrun : (execOp a.eval o).run P w = .ok (.enter f (c.args.toList.map a.eval ++ cs.toList).toArray) w := by
    have he : c.args.map a.eval ++ cs = (c.args.toList.map a.eval ++ cs.toList).toArray := by apply Array.ext'; simp
    simp only [execOp, ho, resolve, hc, hgv, Deferred.ofValue, Sem.run_bind, Sem.run_pure, Result.andThen_ok, invoke, Array.empty_append, he]
    have hname' : ¬ fn.name = "runtime.NumGoroutine" := by simpa using hname
    have hbody' : ¬ fn.body = none := fun h => by rw [h] at hbody; cases hbody
    simp [callFunc, go_sem, hfn, hname', hbody']
  obtain ⟨ρc, hρc, hρn, hview0, hsatc⟩ := hand_over hlen1 hnd hbh hH hsat
  have hcall := hs ρc (ownC idx own) w (c.args.toList.map a.eval ++ cs.toList) hρn (by rw [hview0]; exact SV.backL hρc _ _ hba hargs) hsatc
  unfold Oper.wp
  rw [hrun, Oper.upon_enter]
  refine Calls.mono hcall fun e w' he => ?_
  obtain ⟨v, r, chs, ρ1, own1, rfl, hpost, hsince, hnone, hr, hsat1⟩ := he
  obtain ⟨ρ', own', h1, h2, h3⟩ := hand_back hlen1 hlt hρc hview0 hsince hnone hsat1
  exact hK r chs ρ' own' w' v hpost h1 (h2 r v hr) h3
end

theorem wnames_wrOf_idx {idx : List Nat} {h : Nat} {chs : List Ch} (hl : idx.length ≤ hlen chs) {i : Nat} (hi : i ∈ idx) : i ∈ wnames (wrOf (sig idx h) 0 chs) := by
  obtain ⟨k, hk, rfl⟩ := List.mem_iff_getElem.1 hi
  have := mem_wrOf (σ := sig idx h) (l := chs) (k := 0) (j := k) (by omega)
  simp only [wnames, List.mem_map]
  refine ⟨_, this, ?_⟩
  simp only [Nat.zero_add]
  exact sig_lt idx h k hk

/-- In straight code: whatever the contract lets come. -/
theorem call_any {E : FE} {f : FuncId} {args argsC : List SV} {pre : List Ch} {Post : SV → List Ch → Prop} {tm : List SV} {H : List Ch} {o : Oper} {all l : List Oper} {k : List It} (idx : List Nat) {c : Call} {g : Operand} {caps : List SV}
    (hs : Spec E.P f args pre Post) (hchk : callChk (hlen H) pre idx args = true) (hH : HLe (selH H idx) (renH (sig idx (hlen H)) pre)) (hA : SLeL argsC (SV.renL (sig idx (hlen H)) args)) (ho : o.op = .call c) (hc : c.callee = .value g) (hev : ev tm g = .fn f caps)
    (hlenP : ∀ r chs, Post r chs → hlen pre ≤ hlen chs)
    (h : ∀ r chs, Post r chs → M E (.o none all l) k (put tm o.dst (r.ren (sig idx (hlen H)))) (hsets H (wrOf (sig idx (hlen H)) 0 chs))) : CallG E f argsC o none all l k tm H := by
  intro hw hop
  have hA2 : SLeL (evs tm c.args.toList ++ caps) (SV.renL (sig idx (hlen H)) args) := by
    unfold opS at hop
    rw [ho] at hop
    simp only [opCall, hc, hev, Res.call.injEq, true_and] at hop
    rw [hop]; exact hA
  intro s0 ρ own a w hst
  unfold wpList
  rw [wanted_of hst.tmps hw, if_pos rfl]
  have hl1 : idx.length = hlen pre := by
    unfold callChk at hchk
    simp only [Bool.and_eq_true, decide_eq_true_eq] at hchk
    exact hchk.1.1.1.1
  refine .inl (call_wp hs hchk hH ho hc hev hA2 (fun x _ => ev_is hst.tmps x) (fun i _ => hst.sat i) fun r chs ρ' own' w' v hp hstp hv hwr => ?_)
  refine h r chs hp s0 ρ' own' _ w' (hst.step (wr := wrOf (sig idx (hlen H)) 0 chs) ⟨hstp.loc, fun q hq => hstp.sub q fun i hi => ?_, hstp.size, hstp.os, hstp.tape, hstp.output⟩ hv hwr)
  rcases List.mem_append.1 hi with hi | hi
  · exact hq i (wnames_wrOf_idx (by have := hlenP r chs hp; omega) hi)
  · exact hq i hi

/-- Where the contract says it all: in straight code and in a draw. -/
theorem call_one {E : FE} {f : FuncId} {args argsC : List SV} {pre post : List Ch} {s : SV} {tm : List SV} {H : List Ch} {o : Oper} {d : Option Dr} {all l : List Oper} {k : List It} (idx : List Nat) {c : Call} {g : Operand} {caps : List SV}
    (hs : Spec E.P f args pre fun r chs => r = s ∧ chs = post) (hchk : callChk (hlen H) pre idx args = true) (hH : HLe (selH H idx) (renH (sig idx (hlen H)) pre)) (hA : SLeL argsC (SV.renL (sig idx (hlen H)) args)) (ho : o.op = .call c) (hc : c.callee = .value g) (hev : ev tm g = .fn f caps)
    (hlenP : Nat.ble (hlen pre) (hlen post) = true)
    (h : M E (.o (drPush d ⟨s.ren (sig idx (hlen H)), [], wrOf (sig idx (hlen H)) 0 post, true⟩) all l) k (put tm o.dst (s.ren (sig idx (hlen H)))) (hsets H (wrOf (sig idx (hlen H)) 0 post))) : CallG E f argsC o d all l k tm H := by
  intro hw hop
  have hlenP := Nat.le_of_ble_eq_true hlenP
  have hA2 : SLeL (evs tm c.args.toList ++ caps) (SV.renL (sig idx (hlen H)) args) := by
    unfold opS at hop
    rw [ho] at hop
    simp only [opCall, hc, hev, Res.call.injEq, true_and] at hop
    rw [hop]; exact hA
  have hl1 : idx.length = hlen pre := by
    unfold callChk at hchk
    simp only [Bool.and_eq_true, decide_eq_true_eq] at hchk
    exact hchk.1.1.1.1
  refine MO.step (rd := []) hw (fun ρ own w a K Q hopr hsat hn hK => ?_) h
  refine call_wp hs hchk hH ho hc hev hA2 hopr (fun i hi => hsat i (.inr (wnames_wrOf_idx (by omega) hi))) fun r chs ρ' own' w' v hp hstp hv hwr => ?_
  obtain ⟨rfl, rfl⟩ := hp
  refine hK ρ' own' w' v ⟨hstp.loc, fun q hq => hstp.sub q fun i hi => ?_, hstp.size, hstp.os, hstp.tape, hstp.output⟩ hv hwr
  rcases List.mem_append.1 hi with hi | hi
  · exact hq i (wnames_wrOf_idx (by omega) hi)
  · exact hq i hi

end Go.Proofs.Ytladpdndjcgebaa.Sx
