/- The definitions of a small symbolic machine: symbolic values, chunks of memory, and what they mean in a world. Nothing is claimed here. -/
import Derived.Orders
import Derived.WalkKit
namespace Go.Proofs.Ytladpdndjcgebaa.Sx
set_option linter.unusedVariables false
open Go

/-- A plain symbolic value: it names no memory of the call's own. -/
inductive PV where
  | i (k : IntKind) (n : Int)
  | b (b : Bool)
  | s (l : List UInt8)
  | v (v : Value)
  | ps (sz n : Nat) (f : Nat → Nat → PV)
  | x

/-- A symbolic value. -/
inductive SV where
  | c (p : PV)
  | top
  | p (c off : Nat)
  | q (c i j : Nat)
  | pe (n : Nat) (g : Nat → PV)
  | sl (c st len : Nat) (lim : Option Nat)
  | sc (c off sz len cap : Nat)
  | m (c : Nat)
  | st (c : Nat)
  | a (l : List SV)
  | t (l : List SV)
  | fn (f : Nat) (caps : List SV)

structure Loc where
  blk : Nat
  off : Nat
  cap : Nat
  sz : Nat
  deriving Inhabited

abbrev HL := Nat → Option Obj
abbrev Env := Nat → Option Loc

def HL.le (h k : HL) : Prop := ∀ b o, h b = some o → k b = some o
def hcell (h : HL) (b i : Nat) : Option Value := match h b with | some (.cells c _ _) => c[i]? | _ => none

def PV.is (hP : HL) : PV → Value → Prop
  | .i k n, y => y = .int k n
  | .b e, y => y = .bool e
  | .s l, y => y = .string ⟨l.toArray⟩
  | .v u, y => y = u ∧ u.oneCell' = true
  | .ps sz n f, y => ∃ A cap, y = .slice A n cap ∧ n ≤ cap ∧ ∃ blk off, (0 < n → A = some ⟨blk, off, none⟩) ∧
      ∀ i', i' < n → ∀ j, j < sz → ∃ u, hcell hP blk (off + (i' * sz + j)) = some u ∧ (f i' j).is hP u
  | .x, y => y.oneCell' = true

mutual
def SV.is (ρ : Env) (hP : HL) : SV → Value → Prop
  | .c P, y => P.is hP y
  | .top, _ => True
  | .p C off, y => ∃ l, ρ C = some l ∧ y = .pointer (some ⟨l.blk, l.off + off, none⟩)
  | .q C i j, y => ∃ l, ρ C = some l ∧ y = .pointer (some ⟨l.blk, l.off + (i * l.sz + j), none⟩)
  | .pe n g, y => ∃ blk off, y = .pointer (some ⟨blk, off, none⟩) ∧ ∀ j, j < n → ∃ u, hcell hP blk (off + j) = some u ∧ (g j).is hP u
  | .sl C start len lim, y => ∃ l A cap, ρ C = some l ∧ y = .slice A len cap ∧ len ≤ cap ∧ (0 < cap → A = some ⟨l.blk, l.off + start * l.sz, none⟩) ∧ start + cap ≤ l.cap ∧
      (match lim with | none => start + cap = l.cap | some k => cap = k) ∧ (0 < l.cap → A ≠ none)
  | .sc C off _ len cap, y => ∃ l A, ρ C = some l ∧ y = .slice A len cap ∧ len ≤ cap ∧ (0 < cap → A = some ⟨l.blk, l.off + off, none⟩) ∧ A ≠ none
  | .m C, y => ∃ l, ρ C = some l ∧ y = .map (some l.blk)
  | .st C, y => ∃ l, ρ C = some l ∧ y = .int .i64 (l.blk : Int)
  | .a L, y => ∃ vs : Array Value, y = .agg vs ∧ SV.isL ρ hP L vs.toList
  | .t L, y => ∃ vs : Array Value, y = .tuple vs ∧ SV.isL ρ hP L vs.toList
  | .fn f L, y => ∃ vs : Array Value, y = .func (.func f) #[] vs ∧ SV.isL ρ hP L vs.toList
def SV.isL (ρ : Env) (hP : HL) : List SV → List Value → Prop
  | [], vs => vs = []
  | s :: l, vs => ∃ u us, vs = u :: us ∧ SV.is ρ hP s u ∧ SV.isL ρ hP l us
end

/-- What is known of an object behind a chunk's name. -/
structure Asrt where
  p : Loc → HL → HL → Prop
  mono : ∀ l hP h hP' h', HL.le hP hP' → HL.le h h' → p l hP h → p l hP' h'

/-- A map's kind: its keys' ints, whether a key is an array, of how many; whether a value is one of several cells. -/
structure MK where
  kk : IntKind
  ag : Bool
  ks : Nat
  va : Bool
  deriving DecidableEq

/-- A chunk of memory that the call owns. -/
inductive Ch where
  | none
  | cells (T : Nat) (l : List SV)
  | vec (T sz n : Nat) (f : Nat → Nat → PV)
  | map (k : MK) (n : Nat) (g : List Int → Option (List PV)) (stamps : List (Nat × List Int))
  | pred (A : Asrt)
  | vs (T sz : Nat) (l : List SV)

def Unfrozen (fr : Nat × Nat) (n : Nat) : Prop := ∀ j, j < n → (fr.1 ≤ j && j < fr.2) = false

/-- A key, out of its ints. -/
def keyVal (k : MK) (l : List Int) : Value := match k.ag with
  | true => .agg (l.map (Value.int k.kk)).toArray
  | false => .int k.kk (l.headD 0)

def listIs (hP : HL) : List PV → List Value → Prop
  | [], vs => vs = []
  | p :: l, vs => ∃ u us, vs = u :: us ∧ p.is hP u ∧ listIs hP l us

structure MapIs (hP : HL) (k : MK) (n : Nat) (g : List Int → Option (List PV)) (es : List MapEntry) (clock : Nat) : Prop where
  one : k.ag = false → k.ks = 1
  size : es.length = n
  keyed : ∀ e ∈ es, ∃ l, l.length = k.ks ∧ e.key = keyVal k l
  uniq : es.Pairwise fun e d => e.key ≠ d.key
  born : es.Pairwise fun e d => e.born ≠ d.born
  clock : ∀ e ∈ es, e.born < clock
  vals : ∀ e ∈ es, (k.va = true → ∃ cs, e.val = .agg cs) ∧ (k.va = false → e.val.cells = #[e.val])
  some_ : ∀ l ps, l.length = k.ks → g l = some ps → ∃ e ∈ es, e.key = keyVal k l ∧ listIs hP ps e.val.cells.toList
  none_ : ∀ l, l.length = k.ks → g l = none → ∀ e ∈ es, e.key ≠ keyVal k l

def Ch.sat (ρ : Env) (c : Nat) (hP h : HL) : Ch → Prop
  | .none => True
  | .cells T l => ∃ L arr, ρ c = some L ∧ L.off = 0 ∧ L.cap = l.length ∧ h L.blk = some (.cells arr T (0, 0)) ∧ SV.isL ρ hP l arr.toList
  | .vec T sz n f => ∃ L, ρ c = some L ∧ L.sz = sz ∧ n ≤ L.cap ∧ L.cap ≤ maxLen ∧
      (0 < L.cap → ∃ arr fr, h L.blk = some (.cells arr T fr) ∧ L.off + L.cap * sz ≤ arr.size ∧ Unfrozen fr arr.size ∧
        ∀ i, i < n → ∀ j, j < sz → ∃ u, arr[L.off + (i * sz + j)]? = some u ∧ (f i j).is hP u)
  | .map k n g stamps => ∃ L es clock, ρ c = some L ∧ h L.blk = some (.map es clock) ∧ MapIs hP k n g es.toList clock ∧
      ∀ x ∈ stamps, ∃ l, ρ x.1 = some l ∧ x.2.length = k.ks ∧ ∃ e ∈ es.toList, e.born = l.blk ∧ e.key = keyVal k x.2
  | .pred A => ∃ L, ρ c = some L ∧ A.p L hP h
  | .vs T sz l => ∃ L, ρ c = some L ∧ L.sz = sz ∧ l.length ≤ L.cap * sz ∧ L.cap ≤ maxLen ∧ (sz = 0 → l = []) ∧
      (0 < L.cap → ∃ arr fr, h L.blk = some (.cells arr T fr) ∧ L.off + L.cap * sz ≤ arr.size ∧ Unfrozen fr arr.size ∧
        ∃ us : List Value, SV.isL ρ hP l us ∧ ∀ i u, us[i]? = some u → arr[L.off + i]? = some u ∧ u.oneCell' = true)

def view (own : Nat → Nat) (k : Nat) (w : World) : HL := fun b => if own b = k then w.heap[b]? else none

def hget : List Ch → Nat → Ch
  | [], _ => .none
  | x :: _, 0 => x
  | _ :: l, n + 1 => hget l n

/-- The chunks hold in a world: persistent memory is owned by 0, the frame by 1, chunk c by c + 3. -/
def SatH (ρ : Env) (own : Nat → Nat) (w : World) (H : List Ch) : Prop :=
  ∀ c, (hget H c).sat ρ c (view own 0 w) (view own (c + 3) w)


/-! What holds goes on holding when names and memory are added. -/
def Env.le (ρ ρ' : Env) : Prop := ∀ c l, ρ c = some l → ρ' c = some l
theorem Env.le_refl (ρ : Env) : Env.le ρ ρ := fun _ _ h => h
theorem HL.le_refl (h : HL) : HL.le h h := fun _ _ h => h
theorem HL.le_trans {a b c : HL} (h : HL.le a b) (k : HL.le b c) : HL.le a c := fun x o e => k x o (h x o e)

theorem hcell_mono {h k : HL} (hk : HL.le h k) {b i : Nat} {u : Value} (e : hcell h b i = some u) : hcell k b i = some u := by
  unfold hcell at *
  cases hb : h b with
  | none => rw [hb] at e; simp at e
  | some o => rw [hk b o hb]; rw [hb] at e; exact e

theorem PV.mono {hP hP' : HL} (hk : HL.le hP hP') : ∀ (p : PV) (y : Value), p.is hP y → p.is hP' y
  | .i .., _, h => h
  | .b .., _, h => h
  | .s .., _, h => h
  | .v .., _, h => h
  | .x, _, h => h
  | .ps sz n f, y, h => by
    obtain ⟨A, cap, e, hc, blk, off, h1, h2⟩ := h
    refine ⟨A, cap, e, hc, blk, off, h1, fun i hi j hj => ?_⟩
    obtain ⟨u, hu, hf⟩ := h2 i hi j hj
    exact ⟨u, hcell_mono hk hu, PV.mono hk (f i j) u hf⟩

mutual
theorem SV.mono {ρ ρ' : Env} {hP hP' : HL} (hr : Env.le ρ ρ') (hk : HL.le hP hP') : ∀ (s : SV) (y : Value), s.is ρ hP y → s.is ρ' hP' y
  | .c P, y, h => PV.mono hk P y h
  | .top, _, h => h
  | .p C off, y, ⟨l, h1, h2⟩ => ⟨l, hr _ _ h1, h2⟩
  | .q C i j, y, ⟨l, h1, h2⟩ => ⟨l, hr _ _ h1, h2⟩
  | .pe n g, y, ⟨blk, off, h1, h2⟩ => ⟨blk, off, h1, fun j hj => let ⟨u, hu, hg⟩ := h2 j hj; ⟨u, hcell_mono hk hu, PV.mono hk _ _ hg⟩⟩
  | .sl C start len lim, y, ⟨l, A, cap, h1, h2⟩ => ⟨l, A, cap, hr _ _ h1, h2⟩
  | .sc C off _ len cap, y, ⟨l, A, h1, h2⟩ => ⟨l, A, hr _ _ h1, h2⟩
  | .m C, y, ⟨l, h1, h2⟩ => ⟨l, hr _ _ h1, h2⟩
  | .st C, y, ⟨l, h1, h2⟩ => ⟨l, hr _ _ h1, h2⟩
  | .a L, y, ⟨vs, h1, h2⟩ => ⟨vs, h1, SV.monoL hr hk L _ h2⟩
  | .t L, y, ⟨vs, h1, h2⟩ => ⟨vs, h1, SV.monoL hr hk L _ h2⟩
  | .fn f L, y, ⟨vs, h1, h2⟩ => ⟨vs, h1, SV.monoL hr hk L _ h2⟩
theorem SV.monoL {ρ ρ' : Env} {hP hP' : HL} (hr : Env.le ρ ρ') (hk : HL.le hP hP') : ∀ (l : List SV) (ys : List Value), SV.isL ρ hP l ys → SV.isL ρ' hP' l ys
  | [], _, h => h
  | s :: l, _, ⟨u, us, h1, h2, h3⟩ => ⟨u, us, h1, SV.mono hr hk s u h2, SV.monoL hr hk l us h3⟩
end

theorem listIs_mono {hP hP' : HL} (hk : HL.le hP hP') : ∀ (l : List PV) (ys : List Value), listIs hP l ys → listIs hP' l ys
  | [], _, h => h
  | p :: l, _, ⟨u, us, h1, h2, h3⟩ => ⟨u, us, h1, PV.mono hk p u h2, listIs_mono hk l us h3⟩

theorem MapIs.mono {hP hP' : HL} (hk : HL.le hP hP') {k : MK} {n : Nat} {g : List Int → Option (List PV)} {es : List MapEntry} {cl : Nat} (h : MapIs hP k n g es cl) : MapIs hP' k n g es cl :=
  ⟨h.one, h.size, h.keyed, h.uniq, h.born, h.clock, h.vals, fun l ps hl hg => let ⟨e, h1, h2, h3⟩ := h.some_ l ps hl hg; ⟨e, h1, h2, listIs_mono hk _ _ h3⟩, h.none_⟩

theorem Ch.sat_mono {ρ ρ' : Env} {hP hP' h h' : HL} (hr : Env.le ρ ρ') (hk : HL.le hP hP') (hh : HL.le h h') {c : Nat} : ∀ {ch : Ch}, ch.sat ρ c hP h → ch.sat ρ' c hP' h'
  | .none, hs => hs
  | .cells T l, ⟨L, arr, h1, h2, h2', h3, h4⟩ => ⟨L, arr, hr _ _ h1, h2, h2', hh _ _ h3, SV.monoL hr hk _ _ h4⟩
  | .vec T sz n f, ⟨L, h1, h2, h3, h4, h5⟩ => ⟨L, hr _ _ h1, h2, h3, h4, fun hc => by
      obtain ⟨arr, fr, h6, h7, h8, h9⟩ := h5 hc
      refine ⟨arr, fr, hh _ _ h6, h7, h8, fun i hi j hj => ?_⟩
      obtain ⟨u, hu, hf⟩ := h9 i hi j hj
      exact ⟨u, hu, PV.mono hk _ _ hf⟩⟩
  | .map k n g stamps, ⟨L, es, cl, h1, h2, h3, h4⟩ => ⟨L, es, cl, hr _ _ h1, hh _ _ h2, h3.mono hk, fun x hx => let ⟨l, h5, h6⟩ := h4 x hx; ⟨l, hr _ _ h5, h6⟩⟩
  | .pred A, ⟨L, h1, h2⟩ => ⟨L, hr _ _ h1, A.mono _ _ _ _ _ hk hh h2⟩
  | .vs T sz l, ⟨L, h1, h2, h3, h4, hz, h5⟩ => ⟨L, hr _ _ h1, h2, h3, h4, hz, fun hc => by
      obtain ⟨arr, fr, h6, h7, h8, us, h9, h10⟩ := h5 hc
      exact ⟨arr, fr, hh _ _ h6, h7, h8, us, SV.monoL hr hk _ _ h9, h10⟩⟩

end Go.Proofs.Ytladpdndjcgebaa.Sx
