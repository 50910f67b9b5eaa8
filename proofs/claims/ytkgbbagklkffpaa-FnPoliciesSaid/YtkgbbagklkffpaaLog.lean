/- The logarithm of a positive number, as it is computed in 64 bits: the model, and that it stays small. No program in sight. -/
import Derived.Test.YtkgbbagklkffpaaMag3
import Derived.Test.YtkgbbagklkffpaaRow
namespace Go.Proofs.Ytkgbbagklkffpaa
open Go.RowKit

/-- 2 to the power of j, behind a name. -/
def pw (j : Nat) : Nat := 2 ^ j
theorem pw_pos (j : Nat) : 0 < pw j := Nat.two_pow_pos j
theorem pw_add (a b : Nat) : pw (a + b) = pw a * pw b := Nat.pow_add 2 a b
theorem pw_succ (a : Nat) : pw (a + 1) = 2 * pw a := by rw [pw_add, Nat.mul_comm]; rfl
theorem pw_le {a b : Nat} (h : a ≤ b) : pw a ≤ pw b := Nat.pow_le_pow_right (by decide) h
theorem pw_lt {a b : Nat} (h : a < b) : pw a < pw b := Nat.pow_lt_pow_right (by decide) h
theorem pw_inj_le {a b : Nat} (h : pw a ≤ pw b) : a ≤ b := by
  rcases Nat.lt_or_ge b a with h1 | h1
  · have := pw_lt h1; omega
  · exact h1
theorem unit64 : unit .f64 = pw 1074 := by
  show pw (-FloatKind.f64.format.leastPlace).toNat = pw 1074
  rw [lp64]; rfl
theorem unit32 : unit .f32 = pw 149 := by
  show pw (-FloatKind.f32.format.leastPlace).toNat = pw 149
  rw [lp32]; rfl
theorem w925_pw : w925 = pw 925 := by unfold w925 pw; rw [← e925_eq]
theorem rep_pw (j : Nat) (h : j ≤ 2045) : Rep FloatKind.f64.format ((pw j : Nat) : Int) := by
  have := rep_nat64 1 j (by decide) h
  rwa [Nat.one_mul] at this
theorem rep_pw32 (j : Nat) (h : j ≤ 253) : Rep FloatKind.f32.format ((pw j : Nat) : Int) := by
  have := rep_nat32 1 j (by decide) h
  rwa [Nat.one_mul] at this

/-- At most 2 to the power of a, in units. -/
def Pb (x : Option Nat) (a : Nat) : Prop := ∃ v, IsV .f64 x v ∧ v.natAbs ≤ pw a
/-- At least 2 to the power of a, in units. -/
def Lb (x : Option Nat) (a : Nat) : Prop := ∃ v, IsV .f64 x v ∧ (pw a : Int) ≤ v
theorem natAbs_of {v : Int} {N : Nat} (h1 : -(N : Int) ≤ v) (h2 : v ≤ N) : v.natAbs ≤ N := by omega
theorem mul_abs {a b : Int} {A B : Nat} (ha : a.natAbs ≤ A) (hb : b.natAbs ≤ B) : -((A * B : Nat) : Int) ≤ a * b ∧ a * b ≤ ((A * B : Nat) : Int) := by
  have h : (a * b).natAbs ≤ A * B := by rw [Int.natAbs_mul]; exact Nat.mul_le_mul ha hb
  omega
theorem Pb.mono {x : Option Nat} {a b : Nat} (h : Pb x a) (hab : a ≤ b) : Pb x b := by
  obtain ⟨v, hv, h1⟩ := h
  exact ⟨v, hv, Nat.le_trans h1 (pw_le hab)⟩
theorem Pb.mul {x y : Option Nat} {a b : Nat} (hx : Pb x a) (hy : Pb y b) (c : Nat) (h : a + b ≤ c + 1074) (hc : c ≤ 2045) : Pb (fop .mul .f64 x y) c := by
  obtain ⟨v, hv, h1⟩ := hx
  obtain ⟨u, hu, h2⟩ := hy
  have hm := mul_abs h1 h2
  have hle : pw a * pw b ≤ pw c * pw 1074 := by rw [← pw_add, ← pw_add]; exact pw_le h
  rw [← Int.ofNat_le] at hle
  obtain ⟨r, hr, r1, r2⟩ := mul_within hv hu (rep_neg _ (rep_pw c hc)) (rep_pw c hc) (by rw [unit64, Int.neg_mul, ← Int.natCast_mul]; omega) (by rw [unit64, ← Int.natCast_mul]; omega)
  exact ⟨r, hr, natAbs_of r1 r2⟩
theorem Pb.add {x y : Option Nat} {a : Nat} (hx : Pb x a) (hy : Pb y a) (ha : a + 1 ≤ 2045) : Pb (fop .add .f64 x y) (a + 1) := by
  obtain ⟨v, hv, h1⟩ := hx
  obtain ⟨u, hu, h2⟩ := hy
  have hp := pw_succ a
  obtain ⟨r, hr, r1, r2⟩ := add_within hv hu (rep_neg _ (rep_pw (a + 1) ha)) (rep_pw (a + 1) ha) (by omega) (by omega)
  exact ⟨r, hr, natAbs_of r1 r2⟩
theorem Pb.sub {x y : Option Nat} {a : Nat} (hx : Pb x a) (hy : Pb y a) (ha : a + 1 ≤ 2045) : Pb (fop .sub .f64 x y) (a + 1) := by
  obtain ⟨v, hv, h1⟩ := hx
  obtain ⟨u, hu, h2⟩ := hy
  have hp := pw_succ a
  obtain ⟨r, hr, r1, r2⟩ := sub_within hv hu (rep_neg _ (rep_pw (a + 1) ha)) (rep_pw (a + 1) ha) (by omega) (by omega)
  exact ⟨r, hr, natAbs_of r1 r2⟩
theorem Pb.div {x y : Option Nat} {a d : Nat} (hx : Pb x a) (hy : Lb y d) (c : Nat) (h : a + 1074 ≤ c + d) (hc : c ≤ 2045) : Pb (fop .quo .f64 x y) c := by
  obtain ⟨v, hv, h1⟩ := hx
  obtain ⟨u, hu, h2⟩ := hy
  have hd := pw_pos d
  have hle : pw a * pw 1074 ≤ pw c * pw d := by rw [← pw_add, ← pw_add]; exact pw_le h
  have h3 : v.natAbs * pw 1074 ≤ pw c * u.natAbs := Nat.le_trans (Nat.mul_le_mul_right _ h1) (Nat.le_trans hle (Nat.mul_le_mul_left _ (by omega)))
  have e1 : (v * (pw 1074 : Int)).natAbs = v.natAbs * pw 1074 := by rw [Int.natAbs_mul]; rfl
  have e2 : ((pw c : Int) * u) = ((pw c * u.natAbs : Nat) : Int) := by rw [Int.natCast_mul]; congr 1; omega
  obtain ⟨r, hr, r1, r2⟩ := div_within hv hu (by omega) (rep_neg _ (rep_pw c hc)) (rep_pw c hc) (by rw [unit64, Int.neg_mul, e2]; omega) (by rw [unit64, e2]; omega)
  exact ⟨r, hr, natAbs_of r1 r2⟩
/-- Between powers of 2, in units. -/
def Rb (x : Option Nat) (a b : Nat) : Prop := ∃ v, IsV .f64 x v ∧ (pw a : Int) ≤ v ∧ v ≤ (pw b : Int)
theorem Rb.pb {x : Option Nat} {a b : Nat} (h : Rb x a b) : Pb x b := by
  obtain ⟨v, hv, h1, h2⟩ := h
  exact ⟨v, hv, by omega⟩
theorem Rb.lb {x : Option Nat} {a b : Nat} (h : Rb x a b) : Lb x a := by
  obtain ⟨v, hv, h1, h2⟩ := h
  exact ⟨v, hv, h1⟩
theorem Rb.le {x : Option Nat} {a b : Nat} (h : Rb x a b) : a ≤ b := by
  obtain ⟨v, hv, h1, h2⟩ := h
  exact pw_inj_le (by omega)
theorem isV_one : IsV .f64 (some 4607182418800017408) (pw 1074 : Int) := by
  have h := isV_one64; rwa [unit64] at h
theorem isV_two : IsV .f64 (some 4611686018427387904) (pw 1075 : Int) := by
  have h := isV_ofInt64 2 (by decide)
  rw [show floatOfInt .f64 2 = 4611686018427387904 from by decide, unit64] at h
  rwa [show ((pw 1075 : Nat) : Int) = 2 * ((pw 1074 : Nat) : Int) by rw [show 1075 = 1074 + 1 from rfl, pw_succ]; omega]
theorem pb_one : Pb (some 4607182418800017408) 1074 := ⟨_, isV_one, by omega⟩
theorem pb_two : Pb (some 4611686018427387904) 1075 := ⟨_, isV_two, by omega⟩
theorem Rb.half {x : Option Nat} {a b : Nat} (h : Rb x (a + 1) (b + 1)) (hb : b ≤ 2045) : Rb (fop .quo .f64 x (some 4611686018427387904)) a b := by
  have hab := h.le
  obtain ⟨v, hv, h1, h2⟩ := h
  have e1 : pw a * pw 1075 = pw (a + 1) * pw 1074 := by rw [← pw_add, ← pw_add]
  have e2 : pw b * pw 1075 = pw (b + 1) * pw 1074 := by rw [← pw_add, ← pw_add]
  have q1 := Int.mul_le_mul_of_nonneg_right h1 (show (0 : Int) ≤ (pw 1074 : Int) by omega)
  have q2 := Int.mul_le_mul_of_nonneg_right h2 (show (0 : Int) ≤ (pw 1074 : Int) by omega)
  have hp := pw_pos 1075
  obtain ⟨r, hr, r1, r2⟩ := div_within hv isV_two (by omega) (rep_pw a (by omega)) (rep_pw b hb) (by rw [unit64, ← Int.natCast_mul, e1, Int.natCast_mul]; exact q1) (by rw [unit64, ← Int.natCast_mul, e2, Int.natCast_mul]; exact q2)
  exact ⟨r, hr, r1, r2⟩
theorem Rb.double {x : Option Nat} {a b : Nat} (h : Rb x a b) (hb : b + 1 ≤ 2045) : Rb (fop .mul .f64 x (some 4611686018427387904)) (a + 1) (b + 1) := by
  have hab := h.le
  obtain ⟨v, hv, h1, h2⟩ := h
  have e1 : pw (a + 1) * pw 1074 = pw a * pw 1075 := by rw [← pw_add, ← pw_add]
  have e2 : pw (b + 1) * pw 1074 = pw b * pw 1075 := by rw [← pw_add, ← pw_add]
  have q1 := Int.mul_le_mul_of_nonneg_right h1 (show (0 : Int) ≤ (pw 1075 : Int) by omega)
  have q2 := Int.mul_le_mul_of_nonneg_right h2 (show (0 : Int) ≤ (pw 1075 : Int) by omega)
  obtain ⟨r, hr, r1, r2⟩ := mul_within hv isV_two (rep_pw (a + 1) (by omega)) (rep_pw (b + 1) hb) (by rw [unit64, ← Int.natCast_mul, e1, Int.natCast_mul]; exact q1) (by rw [unit64, ← Int.natCast_mul, e2, Int.natCast_mul]; exact q2)
  exact ⟨r, hr, r1, r2⟩

/-- A positive constant between two others. -/
theorem fv_le {a b : Nat} (h : a ≤ b) (hb : b < FloatKind.f64.format.infRung) : IsV .f64 (some a) (mgr FloatKind.f64.format a : Int) ∧ mgr FloatKind.f64.format a ≤ mgr FloatKind.f64.format b := by
  have hs := FloatKind.f64.format.infRung_lt
  have ha : a % FloatKind.f64.format.signWeight = a := Nat.mod_eq_of_lt (by omega)
  refine ⟨⟨a, rfl, by rw [ha]; omega, ?_⟩, mgr_mono _ h⟩
  unfold fv
  rw [ha, Nat.div_eq_of_lt (by omega)]
  rfl
theorem mgr_one : (mgr FloatKind.f64.format 4607182418800017408 : Int) = (pw 1074 : Int) := (fv_le (Nat.le_refl 4607182418800017408) (by decide)).1.val isV_one
theorem mgr_two : (mgr FloatKind.f64.format 4611686018427387904 : Int) = (pw 1075 : Int) := (fv_le (Nat.le_refl 4611686018427387904) (by decide)).1.val isV_two
theorem mgr_pw (D K : Nat) (hK : K ≤ 2 * FloatKind.f64.format.binade) (hD : FloatKind.f64.format.binade ≤ K) : mgr FloatKind.f64.format (D * FloatKind.f64.format.binade + K) = K * pw D := mgr_parts FloatKind.f64.format D K hK (fun _ => hD)
theorem mgr_half : (mgr FloatKind.f64.format 4602678819172646912 : Int) = (pw 1073 : Int) := by
  have h := mgr_pw 1021 4503599627370496 (by decide) (by decide)
  rw [show 1021 * FloatKind.f64.format.binade + 4503599627370496 = 4602678819172646912 from by decide] at h
  have e : 4503599627370496 * pw 1021 = pw 1073 := by
    rw [show (4503599627370496 : Nat) = pw 52 from by decide]
    exact (pw_add 52 1021).symm
  rw [h, e]
theorem isV_c15 : ∃ v, IsV .f64 (some 4609434218613702656) v ∧ (pw 1074 : Int) ≤ v ∧ v ≤ (pw 1075 : Int) := by
  have h1 := (fv_le (a := 4607182418800017408) (b := 4609434218613702656) (by decide) (by decide)).2
  obtain ⟨h2, h3⟩ := fv_le (a := 4609434218613702656) (b := 4611686018427387904) (by decide) (by decide)
  have e1 := mgr_one; have e2 := mgr_two
  exact ⟨_, h2, by omega, by omega⟩
theorem isV_c75 : ∃ v, IsV .f64 (some 4604930618986332160) v ∧ (pw 1073 : Int) ≤ v ∧ v ≤ (pw 1074 : Int) := by
  have h1 := (fv_le (a := 4602678819172646912) (b := 4604930618986332160) (by decide) (by decide)).2
  obtain ⟨h2, h3⟩ := fv_le (a := 4604930618986332160) (b := 4607182418800017408) (by decide) (by decide)
  have e1 := mgr_one; have e2 := mgr_half
  exact ⟨_, h2, by omega, by omega⟩
theorem pb_ln2 : Pb (some 4604418534313441775) 1074 := by
  obtain ⟨h2, h3⟩ := fv_le (a := 4604418534313441775) (b := 4607182418800017408) (by decide) (by decide)
  have e1 := mgr_one
  exact ⟨_, h2, by omega⟩

/-! ### The loops -/
def geB (x : Option Nat) (c : Nat) : Bool := ford .f64 x (some c) == some .gt || ford .f64 x (some c) == some .eq
def ltB (x : Option Nat) (c : Nat) : Bool := ford .f64 x (some c) == some .lt
theorem Rb.ge {x : Option Nat} {a b : Nat} (h : Rb x a b) (hg : geB x 4609434218613702656 = true) : Rb x 1074 b := by
  obtain ⟨v, hv, h1, h2⟩ := h
  obtain ⟨u, hu, u1, _⟩ := isV_c15
  have := ge_of_ford hv hu hg
  exact ⟨v, hv, by omega, h2⟩
theorem Rb.nge {x : Option Nat} {a b : Nat} (h : Rb x a b) (hg : geB x 4609434218613702656 = false) : Rb x a 1075 := by
  obtain ⟨v, hv, h1, h2⟩ := h
  obtain ⟨u, hu, _, u2⟩ := isV_c15
  refine ⟨v, hv, h1, ?_⟩
  unfold geB at hg
  rw [ford_val hv hu] at hg
  rcases Int.lt_trichotomy v u with hc | hc | hc
  · omega
  · rw [Int.compare_eq_eq.2 hc] at hg; simp at hg
  · rw [Int.compare_eq_gt.2 hc] at hg; simp at hg
theorem Rb.lt {x : Option Nat} {a b : Nat} (h : Rb x a b) (hg : ltB x 4604930618986332160 = true) : Rb x a 1074 := by
  obtain ⟨v, hv, h1, h2⟩ := h
  obtain ⟨u, hu, _, u2⟩ := isV_c75
  have := lt_of_ford hv hu hg
  exact ⟨v, hv, h1, by omega⟩
theorem Rb.nlt {x : Option Nat} {a b : Nat} (h : Rb x a b) (hg : ltB x 4604930618986332160 = false) : Rb x 1073 b := by
  obtain ⟨v, hv, h1, h2⟩ := h
  obtain ⟨u, hu, u1, _⟩ := isV_c75
  refine ⟨v, hv, ?_, h2⟩
  unfold ltB at hg
  rw [ford_val hv hu] at hg
  rcases Int.lt_trichotomy v u with hc | hc | hc
  · rw [Int.compare_eq_lt.2 hc] at hg; simp at hg
  · omega
  · omega
def halveN (y : Option Nat) : Nat → Option Nat
  | 0 => y
  | n + 1 => fop .quo .f64 (halveN y n) (some 4611686018427387904)
def dblN (y : Option Nat) : Nat → Option Nat
  | 0 => y
  | n + 1 => fop .mul .f64 (dblN y n) (some 4611686018427387904)
theorem halve_bd {y : Option Nat} (hy : Rb y 925 1202) (n : Nat) (h : ∀ j, j < n → geB (halveN y j) 4609434218613702656 = true) : n ≤ 129 ∧ Rb (halveN y n) (if n = 0 then 925 else 1073) (1202 - n) := by
  induction n with
  | zero => exact ⟨by omega, by rw [if_pos rfl]; exact hy⟩
  | succ n ih =>
    obtain ⟨h1, h2⟩ := ih (fun j hj => h j (by omega))
    have h3 := h2.ge (h n (by omega))
    have h4 := h3.le
    have hn : n + 1 ≤ 129 := by omega
    obtain ⟨b, hb⟩ : ∃ b, 1202 - n = b + 1 := ⟨1201 - n, by omega⟩
    rw [hb] at h3 h4
    have h5 := Rb.half (a := 1073) h3 (by omega)
    refine ⟨hn, ?_⟩
    rw [if_neg (show ¬ n + 1 = 0 by omega), show 1202 - (n + 1) = b by omega]
    exact h5
theorem dbl_bd {y : Option Nat} (hy : Rb y 925 1075) (n : Nat) (h : ∀ j, j < n → ltB (dblN y j) 4604930618986332160 = true) : n ≤ 150 ∧ Rb (dblN y n) (925 + n) 1075 := by
  induction n with
  | zero => exact ⟨by omega, hy⟩
  | succ n ih =>
    obtain ⟨h1, h2⟩ := ih (fun j hj => h j (by omega))
    have h3 := h2.lt (h n (by omega))
    have h4 := h3.le
    exact ⟨by omega, h3.double (by omega)⟩
def lgN1 (y : Option Nat) : Nat := (firstAt (fun n => !geB (halveN y n) 4609434218613702656) 300).getD 0
def lgX (y : Option Nat) : Option Nat := halveN y (lgN1 y)
def lgN2 (y : Option Nat) : Nat := (firstAt (fun n => !ltB (dblN (lgX y) n) 4604930618986332160) 300).getD 0
def lgZ (y : Option Nat) : Option Nat := dblN (lgX y) (lgN2 y)
def lgE (y : Option Nat) : Int := (lgN1 y : Int) - (lgN2 y : Int)
theorem lg_first {y : Option Nat} (hy : Rb y 925 1202) (n : Nat) (h : ∀ j, j < n → geB (halveN y j) 4609434218613702656 = true) (hn : geB (halveN y n) 4609434218613702656 = false) : lgN1 y = n ∧ lgX y = halveN y n ∧ Rb (lgX y) 925 1075 ∧ (0 < n → Rb (lgX y) 1073 1075) := by
  have hb := halve_bd hy n h
  have e : lgN1 y = n := by
    unfold lgN1
    rw [firstAt_some (k := n) (by omega) (by simp [hn]) (fun j hj => by simp [h j hj])]; rfl
  have ex : lgX y = halveN y n := by unfold lgX; rw [e]
  have h2 := hb.2.nge hn
  refine ⟨e, ex, ?_, fun h0 => ?_⟩
  · rw [ex]
    obtain ⟨v, hv, h3, h4⟩ := h2
    refine ⟨v, hv, ?_, h4⟩
    have : pw 925 ≤ pw (if n = 0 then 925 else 1073) := pw_le (by split <;> omega)
    omega
  · rw [ex]; rw [if_neg (by omega)] at h2; exact h2
theorem lg_second {y : Option Nat} (hx : Rb (lgX y) 925 1075) (n : Nat) (h : ∀ j, j < n → ltB (dblN (lgX y) j) 4604930618986332160 = true) (hn : ltB (dblN (lgX y) n) 4604930618986332160 = false) : lgN2 y = n ∧ lgZ y = dblN (lgX y) n ∧ Rb (lgZ y) 1073 1075 := by
  have hb := dbl_bd hx n h
  have e : lgN2 y = n := by
    unfold lgN2
    rw [firstAt_some (k := n) (by omega) (by simp [hn]) (fun j hj => by simp [h j hj])]; rfl
  have ex : lgZ y = dblN (lgX y) n := by unfold lgZ; rw [e]
  exact ⟨e, ex, by rw [ex]; exact hb.2.nlt hn⟩

/-! ### The series -/
def k64 (n : Int) : Option Nat := some (floatOfInt .f64 n)
theorem isV_k64 (n : Int) (h : n.natAbs < 9007199254740992) : IsV .f64 (k64 n) (n * (pw 1074 : Int)) := by
  have := isV_ofInt64 n h; rwa [unit64] at this
theorem pb_k64 (n : Int) (a : Nat) (h : n.natAbs ≤ pw a) (ha : a ≤ 52) : Pb (k64 n) (a + 1074) := by
  have hb : pw a ≤ pw 52 := pw_le ha
  have e52 : pw 52 = 4503599627370496 := by decide
  refine ⟨_, isV_k64 n (by omega), ?_⟩
  rw [Int.natAbs_mul, Int.natAbs_natCast, pw_add]
  generalize pw 1074 = q
  exact Nat.mul_le_mul_right _ h
def lgS (z : Option Nat) : Option Nat := fop .quo .f64 (fop .sub .f64 z (some 4607182418800017408)) (fop .add .f64 z (some 4607182418800017408))
def lgU (s : Option Nat) : Option Nat := fop .mul .f64 s s
def lgQ (u : Option Nat) : Nat → Option Nat
  | 0 => some 0
  | j + 1 => fop .add .f64 (fop .quo .f64 (some 4607182418800017408) (k64 (25 - 2 * (j : Int)))) (fop .mul .f64 u (lgQ u j))
theorem lgQ_next (u : Option Nat) (j : Nat) : lgQ u (j + 1) = fop .add .f64 (fop .quo .f64 (some 4607182418800017408) (k64 (25 - 2 * (j : Int)))) (fop .mul .f64 u (lgQ u j)) := rfl
def lgM (y : Option Nat) : Option Nat :=
  fop .add .f64 (fop .mul .f64 (some 4611686018427387904) (fop .mul .f64 (lgS (lgZ y)) (lgQ (lgU (lgS (lgZ y))) 13))) (fop .mul .f64 (k64 (lgE y)) (some 4604418534313441775))
theorem lgS_pb {z : Option Nat} (h : Rb z 1073 1075) : Pb (lgS z) 1076 := by
  have h1 : Pb (fop .sub .f64 z (some 4607182418800017408)) 1076 := h.pb.sub (pb_one.mono (by omega)) (by omega)
  have h2 : Lb (fop .add .f64 z (some 4607182418800017408)) 1074 := by
    obtain ⟨v, hv, h3, h4⟩ := h
    have e : pw 1076 = 2 * pw 1075 := pw_succ 1075
    have e2 := pw_le (show 1074 ≤ 1075 by omega)
    obtain ⟨r, hr, r1, r2⟩ := add_within hv isV_one (rep_pw 1074 (by omega)) (rep_pw 1076 (by omega)) (by have := pw_pos 1073; omega) (by omega)
    exact ⟨r, hr, r1⟩
  exact h1.div h2 1076 (by omega) (by omega)
theorem lgQ_pb {u : Option Nat} (h : Pb u 1078) (j : Nat) (hj : j ≤ 13) : Pb (lgQ u j) (1074 + 6 * j) := by
  induction j with
  | zero =>
    refine ⟨0, isV_zero .f64, ?_⟩
    simp
  | succ j ih =>
    have h1 := ih (by omega)
    have h2 : Pb (fop .mul .f64 u (lgQ u j)) (1074 + 6 * j + 4) := h.mul h1 _ (by omega) (by omega)
    have h3 : Pb (fop .quo .f64 (some 4607182418800017408) (k64 (25 - 2 * (j : Int)))) 1074 := by
      refine pb_one.div (d := 1074) ⟨_, isV_k64 _ (by omega), ?_⟩ 1074 (by omega) (by omega)
      have : (1 : Int) * (pw 1074 : Int) ≤ (25 - 2 * (j : Int)) * (pw 1074 : Int) := Int.mul_le_mul_of_nonneg_right (by omega) (by omega)
      omega
    rw [lgQ_next]
    exact (Pb.add (h3.mono (by omega)) (h2.mono (show _ ≤ 1074 + 6 * j + 5 by omega)) (by omega)).mono (by omega)
theorem lgM_pb {y : Option Nat} (hz : Rb (lgZ y) 1073 1075) (he : (lgE y).natAbs ≤ 256) : Pb (lgM y) 1163 := by
  have h1 := lgS_pb hz
  have h2 : Pb (lgU (lgS (lgZ y))) 1078 := h1.mul h1 1078 (by omega) (by omega)
  have h3 := lgQ_pb h2 13 (by omega)
  have h4 : Pb (fop .mul .f64 (lgS (lgZ y)) (lgQ (lgU (lgS (lgZ y))) 13)) 1160 := h1.mul h3 1160 (by omega) (by omega)
  have h5 : Pb (fop .mul .f64 (some 4611686018427387904) (fop .mul .f64 (lgS (lgZ y)) (lgQ (lgU (lgS (lgZ y))) 13))) 1162 := pb_two.mul h4 1162 (by omega) (by omega)
  have h6 : Pb (k64 (lgE y)) (8 + 1074) := pb_k64 _ 8 (by rw [show pw 8 = 256 from by decide]; exact he) (by omega)
  have h7 : Pb (fop .mul .f64 (k64 (lgE y)) (some 4604418534313441775)) 1162 := h6.mul pb_ln2 1162 (by omega) (by omega)
  exact h5.add h7 (by omega)

/-! ### Counting in floats -/
theorem cnt_up : ∀ n : Nat, n < 160 → fop .add .f64 (k64 (n : Int)) (some 4607182418800017408) = k64 ((n : Int) + 1) := by decide +kernel
theorem cnt_down : ∀ n : Nat, n < 340 → fop .sub .f64 (k64 (170 - (n : Int))) (some 4607182418800017408) = k64 (170 - (n : Int) - 1) := by decide +kernel
theorem cnt_dec (z : Int) (h1 : -169 ≤ z) (h2 : z ≤ 170) : fop .sub .f64 (k64 z) (some 4607182418800017408) = k64 (z - 1) := by
  have := cnt_down (170 - z).toNat (by omega)
  rwa [show (170 : Int) - ((170 - z).toNat : Int) = z by omega] at this
theorem cnt_ge : ∀ j : Nat, j < 14 → geB (k64 (25 - 2 * (j : Int))) 4607182418800017408 = decide (j < 13) := by decide +kernel
theorem cnt_two : ∀ n : Nat, n < 13 → fop .sub .f64 (k64 (25 - 2 * (n : Int))) (some 4611686018427387904) = k64 (25 - 2 * ((n : Int) + 1)) := by decide +kernel
end Go.Proofs.Ytkgbbagklkffpaa
