/- What the states of the machine for closed code mean, as states of the symbolic machine; what its readings and writings come to. -/
import Derived.Test.YtladpdndjcgebaaKxB
namespace Go.Proofs.Ytladpdndjcgebaa.Kx
set_option linter.unusedVariables false
open Go Go.Proofs.Ytladpdndjcgebaa.Sx

/-! ### the slots -/
noncomputable def tl (nt : Nat) (t : N3) : List SV := (List.range nt).map fun k => tget k t
noncomputable def dl (n : Nat) (d : D) : List SV := (List.range n).map fun i => dget i d
noncomputable def den : CC → Ch
  | .none => .none
  | .cells T n d => .cells T (dl n d)
  | .vs T sz n d => .vs T sz (dl (n * sz) d)
  | .map k n l st => .map k n (fun key => aget key l) st
noncomputable def hl (H : CH) : List Ch := (List.range H.n).map fun c => den (mget c H.t)
noncomputable def denW (wr : List (Nat × CC)) : List (Nat × Ch) := wr.map fun x => (x.1, den x.2)

theorem rg (n i : Nat) : (List.range n)[i]? = if i < n then some i else none := by
  by_cases h : i < n
  · rw [if_pos h, List.getElem?_range h]
  · rw [if_neg h, List.getElem?_eq_none (by simp; omega)]
theorem lget_eq : ∀ (l : List SV) (n : Nat), lget l n = l.getD n undefS
  | [], n => by cases n <;> rfl
  | _ :: _, 0 => rfl
  | _ :: l, n + 1 => by simpa [lget] using lget_eq l n
theorem lset_eq : ∀ (l : List SV) (n : Nat) (e : SV), lset l n e = l.set n e
  | [], n, e => by cases n <;> rfl
  | _ :: _, 0, e => rfl
  | _ :: l, n + 1, e => by simp [lset, lset_eq l n e]
theorem hget_eq : ∀ (l : List Ch) (n : Nat), hget l n = l.getD n .none
  | [], n => by cases n <;> rfl
  | _ :: _, 0 => rfl
  | _ :: l, n + 1 => by simpa [hget] using hget_eq l n
theorem lget_tl (nt : Nat) (t : N3) (k : Nat) : lget (tl nt t) k = if k < nt then tget k t else undefS := by
  rw [lget_eq, tl, List.getD_eq_getElem?_getD, List.getElem?_map, rg]
  split <;> rfl
theorem tl_length (nt : Nat) (t : N3) : (tl nt t).length = nt := by simp [tl]
theorem dl_length (n : Nat) (d : D) : (dl n d).length = n := by simp [dl]
theorem dl_get (n : Nat) (d : D) (i : Nat) : (dl n d)[i]? = if i < n then some (dget i d) else none := by
  rw [dl, List.getElem?_map, rg]
  split <;> rfl
theorem tl_set (nt : Nat) (hnt : nt ≤ 512) (t : N3) (k : Nat) (hk : k < nt) (v : SV) : lset (tl nt t) k v = tl nt (tset k v t) := by
  rw [lset_eq]
  apply List.ext_getElem?
  intro i
  rw [List.getElem?_set]
  simp only [tl, List.getElem?_map, rg, List.length_map, List.length_range]
  by_cases hi : i < nt
  · simp only [hi, if_true, Option.map_some]
    rw [tget_tset (by omega) (by omega)]
    by_cases h : k = i
    · subst h; simp [hi]
    · rw [if_neg h, if_neg (fun e => h e.symm)]
  · have : ¬ k = i := by omega
    simp [hi, this]
theorem tl_set_out (nt : Nat) (t : N3) (k : Nat) (hk : ¬ k < nt) (v : SV) : lset (tl nt t) k v = tl nt t := by
  rw [lset_eq, List.set_eq_of_length_le (by rw [tl_length]; omega)]
theorem gb_eq (nt : Nat) (x : Operand) (t : N3) (K : SV → EX) : (gb nt x).g t K = K (ev (tl nt t) x) := by
  unfold gb
  cases x with
  | tmp n =>
    simp only [ev, lget_tl, ifB_eq, Nat.blt_eq]
    split
    · exact tgetB_eq n t K
    · rfl
  | const e => rfl
  | global g => rfl
  | func f => rfl
theorem gvK_eq (nt : Nat) (x : Operand) (t : N3) (K : SV → EX) : gvK nt x t K = K (ev (tl nt t) x) := gb_eq nt x t K
theorem gvsK_eq (nt : Nat) (t : N3) : ∀ (l : List Operand) (K : List SV → EX), gvsK nt t l K = K (evs (tl nt t) l)
  | [], K => rfl
  | x :: l, K => by
    show gvK nt x t (fun v => gvsK nt t l fun r => K (v :: r)) = _
    rw [gvK_eq, gvsK_eq nt t l]
    rfl
theorem gbrec {α : Type} (f : (N3 → (SV → EX) → EX) → α) (b : GB) : (GB.rec (motive := fun _ => α) f b : α) = f b.g := rfl
theorem sbrec {α : Type} (f : (SV → N3 → (N3 → EX) → EX) → α) (b : SB) : (SB.rec (motive := fun _ => α) f b : α) = f b.g := rfl
/-- The slots behind an operation. -/
noncomputable def tput (nt : Nat) (d : Option Nat) (v : SV) (t : N3) : N3 := match d with
  | none => t
  | some k => if k < nt then tset k v t else t
theorem sb_eq (nt : Nat) (d : Option Nat) (v : SV) (t : N3) (K : N3 → EX) : (sb nt d).g v t K = K (tput nt d v t) := by
  unfold sb tput
  cases d with
  | none => rfl
  | some k =>
    simp only [ifB_eq, Nat.blt_eq]
    split
    · exact tsetB_eq k v t K
    · rfl
theorem tl_tput (nt : Nat) (hnt : nt ≤ 512) (d : Option Nat) (v : SV) (t : N3) : tl nt (tput nt d v t) = put (tl nt t) d v := by
  cases d with
  | none => rfl
  | some k =>
    simp only [tput, put]
    split
    · rename_i hk; exact (tl_set nt hnt t k hk v).symm
    · rename_i hk; exact (tl_set_out nt t k hk v).symm

/-! ### cells -/
noncomputable def trd : Nat → Nat → D → List SV
  | 0, _, _ => []
  | n + 1, off, t => dget off t :: trd n (off + 1) t
noncomputable def twr : List SV → Nat → D → D
  | [], _, t => t
  | x :: l, off, t => twr l (off + 1) (dset off x t)
theorem trdK_eq : ∀ (n : Nat) (t : D) (off : Nat) (K : List SV → EX), trdK n t off K = K (trd n off t)
  | 0, _, _, _ => rfl
  | n + 1, t, off, K => by
    show dgetK off t (fun v => forceN (Nat.succ off) fun o => trdK n t o fun r => K (v :: r)) = _
    rw [dgetK_eq, forceN_eq, trdK_eq n t]
    rfl
theorem twrK_eq : ∀ (l : List SV) (off : Nat) (t : D) (K : D → EX), twrK l off t K = K (twr l off t)
  | [], _, _, _ => rfl
  | x :: l, off, t, K => by
    show dsetK off x t (fun t => forceN (Nat.succ off) fun o => twrK l o t K) = _
    rw [dsetK_eq, forceN_eq, twrK_eq l]
    rfl
theorem trd_length : ∀ (n off : Nat) (t : D), (trd n off t).length = n
  | 0, _, _ => rfl
  | n + 1, off, t => by simp [trd, trd_length n]
theorem trd_eq : ∀ (n off m : Nat) (t : D), off + n ≤ m → trd n off t = ((dl m t).drop off).take n
  | 0, _, _, _, _ => by simp [trd]
  | n + 1, off, m, t, h => by
    have h1 : off < (dl m t).length := by rw [dl_length]; omega
    rw [trd, trd_eq n (off + 1) m t (by omega), List.drop_eq_getElem_cons h1, List.take_succ_cons]
    congr 1
    have := dl_get m t off
    rw [List.getElem?_eq_getElem h1, if_pos (by omega)] at this
    exact (Option.some.inj this).symm
theorem dget_twr : ∀ (l : List SV) (off : Nat) (t : D) (i : Nat), dget i (twr l off t) = if off ≤ i ∧ i < off + l.length then l.getD (i - off) undefS else dget i t
  | [], off, t, i => by rw [if_neg (by simp only [List.length_nil]; omega)]; rfl
  | x :: l, off, t, i => by
    rw [twr, dget_twr l (off + 1), dget_dset]
    simp only [List.length_cons]
    by_cases h1 : i = off
    · subst h1
      rw [if_neg (by omega), if_pos rfl, if_pos (by omega), Nat.sub_self]
      rfl
    · by_cases h2 : off + 1 ≤ i ∧ i < off + 1 + l.length
      · rw [if_pos h2, if_pos (by omega), show i - off = (i - (off + 1)) + 1 by omega]
        rfl
      · rw [if_neg h2, if_neg h1, if_neg (by omega)]
theorem ldrop_eq : ∀ (n : Nat) (l : List SV), n ≤ l.length → ldrop n l = some (l.drop n)
  | 0, l, _ => by simp [ldrop]
  | n + 1, [], h => by simp at h
  | n + 1, x :: l, h => by simpa [ldrop] using ldrop_eq n l (by simpa using h)
theorem ltake_eq : ∀ (n : Nat) (l : List SV), n ≤ l.length → ltake n l = some (l.take n)
  | 0, l, _ => by simp [ltake]
  | n + 1, [], h => by simp at h
  | n + 1, x :: l, h => by simp [ltake, ltake_eq n l (by simpa using h)]
theorem lslice_eq {off n : Nat} {l : List SV} (h : off + n ≤ l.length) : lslice off n l = some ((l.drop off).take n) := by
  unfold lslice
  rw [ldrop_eq off l (by omega)]
  exact ltake_eq n _ (by simp; omega)
theorem lslice_dl {off n m : Nat} {d : D} (h : off + n ≤ m) : lslice off n (dl m d) = some (trd n off d) := by
  rw [lslice_eq (by rw [dl_length]; exact h), trd_eq n off m d h]
theorem lover_eq : ∀ (xs l : List SV), xs.length ≤ l.length → lover xs l = some (xs ++ l.drop xs.length)
  | [], l, _ => by simp [lover]
  | x :: xs, [], h => by simp at h
  | x :: xs, _ :: l, h => by simp [lover, lover_eq xs l (by simpa using h)]
theorem lput_eq : ∀ (n : Nat) (xs l : List SV), n + xs.length ≤ l.length → lput n xs l = some (l.take n ++ xs ++ l.drop (n + xs.length))
  | 0, xs, l, h => by simpa [lput] using lover_eq xs l (by simpa using h)
  | n + 1, xs, [], h => by simp at h
  | n + 1, xs, y :: l, h => by
    simp only [List.length_cons] at h
    have := lput_eq n xs l (by omega)
    simp only [lput, this, List.take_succ_cons, show n + 1 + xs.length = (n + xs.length) + 1 by omega, List.drop_succ_cons, List.cons_append]
theorem lput_dl {off m : Nat} {xs : List SV} {d : D} (h : off + xs.length ≤ m) : lput off xs (dl m d) = some (dl m (twr xs off d)) := by
  rw [lput_eq off xs _ (by rw [dl_length]; exact h)]
  congr 1
  apply List.ext_getElem?
  intro i
  rw [dl_get, dget_twr]
  by_cases hi : i < m
  · rw [if_pos hi]
    by_cases h1 : i < off
    · rw [List.getElem?_append_left (by simp [dl_length]; omega), List.getElem?_append_left (by simp [dl_length]; omega), List.getElem?_take, if_pos h1, dl_get, if_pos hi, if_neg (by omega)]
    · by_cases h2 : i < off + xs.length
      · rw [List.getElem?_append_left (by simp [dl_length]; omega), List.getElem?_append_right (by simp [dl_length]; omega), if_pos (by omega)]
        simp only [List.length_take, dl_length, Nat.min_eq_left (show off ≤ m by omega)]
        rw [List.getD_eq_getElem?_getD, List.getElem?_eq_getElem (by omega)]
        rfl
      · rw [List.getElem?_append_right (by simp [dl_length]; omega), if_neg (by omega)]
        simp only [List.length_append, List.length_take, dl_length, Nat.min_eq_left (show off ≤ m by omega), List.getElem?_drop]
        rw [show off + xs.length + (i - (off + xs.length)) = i by omega, dl_get, if_pos hi]
  · rw [if_neg hi, List.getElem?_eq_none]
    simp [dl_length]
    omega
theorem dl_twr_nil {l : List SV} : dl l.length (twr l 0 []) = l := by
  apply List.ext_getElem?
  intro i
  rw [dl_get, dget_twr]
  by_cases hi : i < l.length
  · rw [if_pos hi, if_pos (by omega), Nat.sub_zero, List.getD_eq_getElem?_getD, List.getElem?_eq_getElem hi]
    rfl
  · rw [if_neg hi, List.getElem?_eq_none (by omega)]

/-! ### memory -/
theorem hlen_hl (H : CH) : hlen (hl H) = H.n := by rw [hlen_eq]; simp [hl]
theorem hget_hl (H : CH) (c : Nat) : hget (hl H) c = den (hg H c) := by
  rw [hget_eq, hl, List.getD_eq_getElem?_getD, List.getElem?_map, rg]
  unfold hg
  simp only [ifB_eq, Nat.blt_eq]
  split <;> rfl
noncomputable def hs (H : CH) (c : Nat) (x : CC) : CH := ⟨if c < H.n then H.n else c + 1, mset c x H.t⟩
noncomputable def hws : CH → List (Nat × CC) → CH
  | H, [] => H
  | H, (c, x) :: r => hws (hs H c x) r
theorem hw1_eq (x : Nat × CC) (k : CH → EX) (H : CH) : hw1 x k H = k (hs H x.1 x.2) := by
  cases H with
  | mk n t =>
    show msetK x.1 x.2 t (fun t => ifB (Nat.blt x.1 n) (k ⟨n, t⟩) (forceN (Nat.succ x.1) fun m => k ⟨m, t⟩)) = _
    rw [msetK_eq]
    simp only [ifB_eq, forceN_eq, Nat.blt_eq, hs]
    split <;> rfl
theorem hwK_eq : ∀ (wr : List (Nat × CC)) (k : CH → EX) (H : CH), hwK wr k H = k (hws H wr)
  | [], k, H => rfl
  | x :: r, k, H => by
    show hw1 x (hwK r k) H = _
    rw [hw1_eq, hwK_eq r k]
    rfl
/-- Names that are there, or the next one. -/
def WrOK : Nat → List (Nat × CC) → Prop
  | n, [] => n ≤ 262143
  | n, (c, _) :: r => c ≤ n ∧ c < 262143 ∧ WrOK (if c < n then n else c + 1) r
theorem hset_eq : ∀ (H : List Ch) (c : Nat) (e : Ch), c ≤ H.length → hset H c e = if c < H.length then H.set c e else H ++ [e]
  | [], c, e, h => by
    obtain rfl : c = 0 := by simpa using h
    rfl
  | x :: l, 0, e, _ => rfl
  | x :: l, c + 1, e, h => by
    simp only [List.length_cons, Nat.add_le_add_iff_right] at h
    rw [hset, hset_eq l c e h]
    simp only [List.length_cons, Nat.add_lt_add_iff_right, List.set_cons_succ, List.cons_append]
    split <;> rfl
theorem hl_hs (H : CH) (hn : H.n ≤ 262143) (c : Nat) (hc : c ≤ H.n) (hc2 : c < 262143) (x : CC) : hl (hs H c x) = hset (hl H) c (den x) := by
  have hlen : (hl H).length = H.n := by simp [hl]
  rw [hset_eq _ _ _ (by omega)]
  have key : ∀ j, j < 262144 → mget j (mset c x H.t) = if j = c then x else mget j H.t := fun j hj => mget_mset hj (by omega) x H.t
  by_cases hcn : c < H.n
  · rw [if_pos (by omega)]
    apply List.ext_getElem?
    intro i
    rw [List.getElem?_set]
    simp only [hl, hs, if_pos hcn, List.getElem?_map, rg, List.length_map, List.length_range]
    by_cases hi : i < H.n
    · simp only [hi, if_true, Option.map_some, key i (by omega)]
      by_cases h : c = i
      · subst h; simp [hi]
      · rw [if_neg (fun e => h e.symm), if_neg h]
    · have : ¬ c = i := by omega
      simp [hi, this]
  · obtain rfl : c = H.n := by omega
    rw [if_neg (by omega)]
    apply List.ext_getElem?
    intro i
    by_cases hi : i < H.n
    · rw [List.getElem?_append_left (by omega)]
      simp only [hl, hs, hcn, if_false, List.getElem?_map, rg, hi, show i < H.n + 1 by omega, if_true, Option.map_some, key i (by omega), show ¬ i = H.n by omega]
    · by_cases he : i = H.n
      · subst he
        rw [List.getElem?_append_right (by omega), hlen]
        simp [hl, hs, key H.n (by omega)]
      · rw [List.getElem?_eq_none (by simp [hl, hs]; omega), List.getElem?_eq_none (by simp [hl]; omega)]
theorem hl_hws : ∀ (wr : List (Nat × CC)) (H : CH), H.n ≤ 262143 → WrOK H.n wr → hl (hws H wr) = hsets (hl H) (denW wr) ∧ (hws H wr).n ≤ 262143 ∧ H.n ≤ (hws H wr).n
  | [], H, hn, h => ⟨rfl, h, Nat.le_refl _⟩
  | (c, x) :: r, H, hn, ⟨h1, h2, h3⟩ => by
    have hn' : (hs H c x).n ≤ 262143 := by simp only [hs]; split <;> omega
    obtain ⟨e1, e2, e3⟩ := hl_hws r (hs H c x) hn' h3
    refine ⟨?_, e2, ?_⟩
    · rw [hws, e1, hl_hs H hn c h1 h2 x]; rfl
    · have : H.n ≤ (hs H c x).n := by simp only [hs]; split <;> omega
      simp only [hws]; omega
end Go.Proofs.Ytladpdndjcgebaa.Kx
