/- Sums of renewals: the model; they lie between bounds and never fall. No program in sight. -/
import Derived.Test.YtkgbbagklkffpaaKept
namespace Go.Proofs.Ytkgbbagklkffpaa
open Go.RowKit

def k32 (n : Int) : Option Nat := some (floatOfInt .f32 n)
theorem rv_k32 (n : Int) (h : n.natAbs < 16777216) : RV .f32 (k32 n) (n : Rat) := rv_ofInt32 n h

/-! ### The model -/
def sX (f : Nat → Option Nat) (l : List (Option Nat)) (i : Nat) : Nat → Option Nat
  | 0 => some 0
  | j + 1 => fop .add .f32 (sX f l i j) (fop .mul .f32 (fop .sub .f32 (f (j + 1)) (f j)) (l.getD (i - (j + 1)) none))
def mNext (f : Nat → Option Nat) (l : List (Option Nat)) (n : Nat) : Option Nat := if n = 0 then some 0 else fop .add .f32 (f n) (sX f l n (n - 1))
def mL (f : Nat → Option Nat) : Nat → List (Option Nat)
  | 0 => []
  | n + 1 => mL f n ++ [mNext f (mL f n) n]
def mX (f : Nat → Option Nat) (i : Nat) : Option Nat := mNext f (mL f i) i
theorem mL_eq (f : Nat → Option Nat) (n : Nat) : mL f n = (List.range n).map (mX f) := by
  induction n with
  | zero => rfl
  | succ n ih => rw [List.range_succ, List.map_append, ← ih]; rfl
theorem mL_len (f : Nat → Option Nat) (n : Nat) : (mL f n).length = n := by rw [mL_eq]; simp
theorem mL_get (f : Nat → Option Nat) {n i : Nat} (h : i < n) : (mL f n).getD i none = mX f i := by rw [mL_eq]; simp [h]
def sM (f : Nat → Option Nat) (i : Nat) (j : Nat) : Option Nat := sX f (mL f i) i j
theorem sM_zero (f : Nat → Option Nat) (i : Nat) : sM f i 0 = some 0 := rfl
theorem sM_next (f : Nat → Option Nat) {i j : Nat} (h : j < i) : sM f i (j + 1) = fop .add .f32 (sM f i j) (fop .mul .f32 (fop .sub .f32 (f (j + 1)) (f j)) (mX f (i - (j + 1)))) := by
  show fop .add .f32 (sX f (mL f i) i j) _ = _
  rw [mL_get f (show i - (j + 1) < i by omega)]; rfl
theorem mX_zero (f : Nat → Option Nat) : mX f 0 = some 0 := rfl
theorem mX_next (f : Nat → Option Nat) (i : Nat) : mX f (i + 1) = fop .add .f32 (f (i + 1)) (sM f (i + 1) i) := by
  unfold mX mNext
  rw [if_neg (by omega)]; rfl

/-! ### Its numbers -/
theorem nr_zero_add {x : Option Nat} {a : Rat} (hx : RV .f32 x a) (h : 0 ≤ a) : Nr .f32 (fop .add .f32 x (some 0)) a ∧ RV .f32 (fop .add .f32 x (some 0)) a := by
  have w := wn_add hx (rv_z0 .f32)
  have e : a + 0 = a := by grind
  rw [e] at w
  have r := wn_same w hx
  have n := nr_add hx (rv_z0 .f32) (by grind) r
  rw [e] at n
  exact ⟨n, r⟩
theorem add_ge {x y : Option Nat} {a b c : Rat} (hx : RV .f32 x a) (hy : RV .f32 y b) (h0 : 0 ≤ a) (h1 : 0 ≤ b) (hc : RV .f32 (fop .add .f32 x y) c) : a ≤ c := by
  obtain ⟨n, r⟩ := nr_zero_add hx h0
  exact nr_mono n (nr_add hx hy (by grind) hc) (by grind) r hc
theorem add_up {x y x' y' : Option Nat} {a b a' b' c c' : Rat} (hx : RV .f32 x a) (hy : RV .f32 y b) (hx' : RV .f32 x' a') (hy' : RV .f32 y' b') (h0 : 0 ≤ a) (h1 : 0 ≤ b) (ha : a ≤ a') (hb : b ≤ b') (hc : RV .f32 (fop .add .f32 x y) c) (hc' : RV .f32 (fop .add .f32 x' y') c') : c ≤ c' :=
  nr_mono (nr_add hx hy (by grind) hc) (nr_add hx' hy' (by grind) hc') (by grind) hc hc'
theorem mul_up {x y y' : Option Nat} {a b b' c c' : Rat} (hx : RV .f32 x a) (hy : RV .f32 y b) (hy' : RV .f32 y' b') (h0 : 0 ≤ a) (h1 : 0 ≤ b) (hb : b ≤ b') (hc : RV .f32 (fop .mul .f32 x y) c) (hc' : RV .f32 (fop .mul .f32 x y') c') : c ≤ c' := by
  have m := Rat.mul_nonneg h0 (show 0 ≤ b' - b by grind)
  exact nr_mono (nr_mul hx hy h0 h1 hc) (nr_mul hx hy' h0 (by grind) hc') (by grind) hc hc'
def Up (f : Nat → Option Nat) (n : Nat) : Prop := (∀ i, i ≤ n → ∃ φ, RV .f32 (f i) φ ∧ 0 ≤ φ ∧ φ ≤ 1) ∧ ∀ i, i < n → ∀ a b, RV .f32 (f i) a → RV .f32 (f (i + 1)) b → a ≤ b
theorem up_diff {f : Nat → Option Nat} {n : Nat} (h : Up f n) {j : Nat} (hj : j < n) : ∃ d, RV .f32 (fop .sub .f32 (f (j + 1)) (f j)) d ∧ 0 ≤ d ∧ d ≤ 1 := by
  obtain ⟨a, ha, a0, a1⟩ := h.1 j (by omega)
  obtain ⟨b, hb, b0, b1⟩ := h.1 (j + 1) (by omega)
  have := h.2 j hj a b ha hb
  exact wn_between (wn_sub hb ha) 0 1 (by decide) (by decide) (show ((0 : Int) : Rat) ≤ _ by rw [show ((0 : Int) : Rat) = 0 from rfl]; grind) (show _ ≤ ((1 : Int) : Rat) by rw [show ((1 : Int) : Rat) = 1 from rfl]; grind)
/-- Bounds of the sums. -/
def pN (i : Nat) : Nat := 2 ^ i
theorem pN_next (i : Nat) : pN (i + 1) = 2 * pN i := by unfold pN; rw [Nat.pow_succ, Nat.mul_comm]
theorem pN_le : ∀ i, i ≤ 13 → pN i ≤ 8192 := by decide
theorem pN_pos (i : Nat) : 1 ≤ pN i := Nat.two_pow_pos i
structure RenAt (f : Nat → Option Nat) (i : Nat) (μ : Rat) : Prop where
  rv : RV .f32 (mX f i) μ
  lo : 0 ≤ μ
  hi : μ ≤ ((pN i : Nat) : Rat)
theorem sM_bd {f : Nat → Option Nat} {n : Nat} (h : Up f n) (hn : n ≤ 12) {i : Nat} (hi : i ≤ n) (hm : ∀ l, l < i → ∃ μ, RenAt f l μ) (j : Nat) (hj : j < i) : ∃ s, RV .f32 (sM f i j) s ∧ 0 ≤ s ∧ s + ((pN (i - j) : Nat) : Rat) ≤ ((pN i : Nat) : Rat) := by
  induction j with
  | zero => exact ⟨0, rv_z0 _, by grind, by rw [Nat.sub_zero]; grind⟩
  | succ j ih =>
    obtain ⟨s, hs, s0, s1⟩ := ih (by omega)
    obtain ⟨d, hd, d0, d1⟩ := up_diff h (show j < n by omega)
    obtain ⟨μ, hμ, m0, m1⟩ := hm (i - (j + 1)) (by omega)
    have e : pN (i - j) = 2 * pN (i - (j + 1)) := by rw [show i - j = (i - (j + 1)) + 1 by omega, pN_next]
    rw [e, Rat.natCast_mul, show ((2 : Nat) : Rat) = 2 from rfl] at s1
    rw [sM_next f (by omega)]
    have hb := pN_le (i - (j + 1)) (by omega)
    have hb2 := pN_le i (by omega)
    generalize pN (i - (j + 1)) = Q at *
    have p0 := Rat.mul_nonneg d0 m0
    have p1 := Rat.mul_nonneg (show 0 ≤ 1 - d by grind) m0
    obtain ⟨x, hx, x0, x1⟩ := wn_between (wn_mul hd hμ) 0 (Q : Int) (by decide) (by omega) (show ((0 : Int) : Rat) ≤ _ by rw [show ((0 : Int) : Rat) = 0 from rfl]; exact p0) (by rw [Rat.intCast_natCast]; grind)
    rw [Rat.intCast_natCast] at x1
    rw [show ((0 : Int) : Rat) = 0 from rfl] at x0
    have hsum : s + x ≤ (((pN i : Int) - (Q : Int) : Int) : Rat) := by rw [Rat.intCast_sub, Rat.intCast_natCast, Rat.intCast_natCast]; grind
    have hQ : Q ≤ pN i := by
      have : ((Q : Nat) : Rat) ≤ ((pN i : Nat) : Rat) := by
        have : (0 : Rat) ≤ ((Q : Nat) : Rat) := by have := Rat.natCast_le_natCast.2 (Nat.zero_le Q); exact this
        grind
      exact Rat.natCast_le_natCast.1 this
    obtain ⟨y, hy, y0, y1⟩ := wn_between (wn_add hs hx) 0 ((pN i : Int) - (Q : Int)) (by decide) (by omega) (show ((0 : Int) : Rat) ≤ _ by rw [show ((0 : Int) : Rat) = 0 from rfl]; grind) hsum
    rw [Rat.intCast_sub, Rat.intCast_natCast, Rat.intCast_natCast] at y1
    rw [show ((0 : Int) : Rat) = 0 from rfl] at y0
    exact ⟨y, hy, y0, by grind⟩
theorem ren_bd {f : Nat → Option Nat} {n : Nat} (h : Up f n) (hn : n ≤ 12) (i : Nat) : i ≤ n → ∃ μ, RenAt f i μ := by
  induction i using Nat.strongRecOn with
  | ind i ih =>
    intro hi
    cases i with
    | zero => exact ⟨0, rv_z0 _, by grind, by have := Rat.natCast_le_natCast.2 (Nat.zero_le (pN 0)); exact this⟩
    | succ i =>
      obtain ⟨s, hs, s0, s1⟩ := sM_bd h hn hi (fun l hl => ih l hl (by omega)) i (by omega)
      obtain ⟨φ, hφ, f0, f1⟩ := h.1 (i + 1) hi
      rw [show i + 1 - i = 1 by omega, show pN 1 = 2 from rfl, show ((2 : Nat) : Rat) = 2 from rfl] at s1
      have hb2 := pN_le (i + 1) (by omega)
      obtain ⟨y, hy, y0, y1⟩ := wn_between (wn_add hφ hs) 0 (pN (i + 1) : Int) (by decide) (by omega) (show ((0 : Int) : Rat) ≤ _ by rw [show ((0 : Int) : Rat) = 0 from rfl]; grind) (by rw [Rat.intCast_natCast]; grind)
      rw [Rat.intCast_natCast] at y1
      exact ⟨y, by rw [mX_next]; exact hy, y0, y1⟩
theorem ren_ge {f : Nat → Option Nat} {n : Nat} (h : Up f n) (hn : n ≤ 12) {i : Nat} (hi : i < n) {a b : Rat} (ha : RV .f32 (f (i + 1)) a) (hb : RV .f32 (mX f (i + 1)) b) : a ≤ b := by
  obtain ⟨s, hs, s0, -⟩ := sM_bd h hn (show i + 1 ≤ n by omega) (fun l hl => ren_bd h hn l (by omega)) i (by omega)
  obtain ⟨φ, hφ, f0, -⟩ := h.1 (i + 1) (by omega)
  obtain rfl := ha.val hφ
  rw [mX_next] at hb
  exact add_ge ha hs f0 s0 hb
theorem ren_up {f : Nat → Option Nat} {n : Nat} (h : Up f n) (hn : n ≤ 12) (i : Nat) : i < n → ∀ a b, RV .f32 (mX f i) a → RV .f32 (mX f (i + 1)) b → a ≤ b := by
  induction i using Nat.strongRecOn with
  | ind i ih =>
    intro hi a b ha hb
    obtain ⟨μ, hμ⟩ := ren_bd h hn (i + 1) (by omega)
    obtain rfl := hb.val hμ.rv
    cases i with
    | zero => rw [ha.val (show RV .f32 (mX f 0) 0 from rv_z0 _)]; exact hμ.lo
    | succ i =>
      have hR := fun l (hl : l ≤ n) => ren_bd h hn l hl
      -- sums, one after the other
      have key : ∀ j, j ≤ i → ∀ s t, RV .f32 (sM f (i + 1) j) s → RV .f32 (sM f (i + 2) j) t → s ≤ t := by
        intro j
        induction j with
        | zero => exact fun _ s t hs ht => by rw [hs.val (rv_z0 _), ht.val (rv_z0 _)]; grind
        | succ j ihj =>
          intro hj s t hs ht
          obtain ⟨s', hs', s0, -⟩ := sM_bd h hn (show i + 1 ≤ n by omega) (fun l hl => hR l (by omega)) j (by omega)
          obtain ⟨t', ht', t0, -⟩ := sM_bd h hn (show i + 2 ≤ n by omega) (fun l hl => hR l (by omega)) j (by omega)
          have hst := ihj (by omega) s' t' hs' ht'
          obtain ⟨d, hd, d0, d1⟩ := up_diff h (show j < n by omega)
          obtain ⟨x, hx, x0, x1⟩ := hR (i + 1 - (j + 1)) (by omega)
          obtain ⟨y, hy, y0, y1⟩ := hR (i + 2 - (j + 1)) (by omega)
          have hxy : x ≤ y := ih (i + 1 - (j + 1)) (by omega) (by omega) x y hx (by rw [show i + 1 - (j + 1) + 1 = i + 2 - (j + 1) by omega]; exact hy)
          have q1 := pN_le (i + 1 - (j + 1)) (by omega)
          have q2 := pN_le (i + 2 - (j + 1)) (by omega)
          obtain ⟨p, hp, p0, -⟩ := wn_between (wn_mul hd hx) 0 (pN (i + 1 - (j + 1)) : Int) (by decide) (by omega) (show ((0 : Int) : Rat) ≤ _ by rw [show ((0 : Int) : Rat) = 0 from rfl]; exact Rat.mul_nonneg d0 x0) (by have := Rat.mul_nonneg (show 0 ≤ 1 - d by grind) x0; rw [Rat.intCast_natCast]; grind)
          obtain ⟨q, hq, q0, -⟩ := wn_between (wn_mul hd hy) 0 (pN (i + 2 - (j + 1)) : Int) (by decide) (by omega) (show ((0 : Int) : Rat) ≤ _ by rw [show ((0 : Int) : Rat) = 0 from rfl]; exact Rat.mul_nonneg d0 y0) (by have := Rat.mul_nonneg (show 0 ≤ 1 - d by grind) y0; rw [Rat.intCast_natCast]; grind)
          rw [show ((0 : Int) : Rat) = 0 from rfl] at p0 q0
          have hpq := mul_up hd hx hy d0 x0 hxy hp hq
          rw [sM_next f (by omega)] at hs ht
          exact add_up hs' hp ht' hq s0 p0 hst hpq hs ht
      obtain ⟨s, hs, s0, -⟩ := sM_bd h hn (show i + 1 ≤ n by omega) (fun l hl => hR l (by omega)) i (by omega)
      obtain ⟨t, ht, t0, -⟩ := sM_bd h hn (show i + 2 ≤ n by omega) (fun l hl => hR l (by omega)) i (by omega)
      obtain ⟨t2, ht2, -, -⟩ := sM_bd h hn (show i + 2 ≤ n by omega) (fun l hl => hR l (by omega)) (i + 1) (by omega)
      have hst := key i (by omega) s t hs ht
      have htt : t ≤ t2 := by
        obtain ⟨d, hd, d0, d1⟩ := up_diff h (show i < n by omega)
        obtain ⟨y, hy, y0, y1⟩ := hR (i + 2 - (i + 1)) (by omega)
        have q2 := pN_le (i + 2 - (i + 1)) (by omega)
        obtain ⟨q, hq, q0, -⟩ := wn_between (wn_mul hd hy) 0 (pN (i + 2 - (i + 1)) : Int) (by decide) (by omega) (show ((0 : Int) : Rat) ≤ _ by rw [show ((0 : Int) : Rat) = 0 from rfl]; exact Rat.mul_nonneg d0 y0) (by have := Rat.mul_nonneg (show 0 ≤ 1 - d by grind) y0; rw [Rat.intCast_natCast]; grind)
        rw [show ((0 : Int) : Rat) = 0 from rfl] at q0
        rw [sM_next f (by omega)] at ht2
        exact add_ge ht hq t0 q0 ht2
      obtain ⟨φ, hφ, f0, -⟩ := h.1 (i + 1) (by omega)
      obtain ⟨ψ, hψ, g0, -⟩ := h.1 (i + 2) (by omega)
      have hfg := h.2 (i + 1) (by omega) φ ψ hφ hψ
      rw [mX_next] at ha hb
      exact add_up hφ hs hψ ht2 f0 s0 hfg (by grind) ha hb
end Go.Proofs.Ytkgbbagklkffpaa
