/- Contracts: absolute values, OutOf. -/
import Derived.Test.YtkonlchholfpoaaSide
import Derived.Test.YtkonlchholfpoaaFL
import Derived.Test.YtkonlchholfpoaaFres
namespace Go.Proofs.Ytkonlchholfpoaa
open Go.RowKit

/-! ### the opposite, the greater one -/
def opp (x : Option Nat) : Option Nat := x.map (Op.negFloat .f32)
theorem neg_mod (b : Nat) : Op.negFloat .f32 b % 2147483648 = b % 2147483648 := by
  unfold Op.negFloat
  rw [show (2 : Nat) ^ (Ieee.Format.exponentBits FloatKind.f32.format + Ieee.Format.fractionBits FloatKind.f32.format) = 2 ^ 31 from rfl]
  rw [show (2147483648 : Nat) = 2 ^ 31 from rfl, Nat.xor_mod_two_pow]
  simp
theorem neg_div (b : Nat) : (Op.negFloat .f32 b / 2147483648 % 2 == 1) = !(b / 2147483648 % 2 == 1) := by
  unfold Op.negFloat
  rw [show (2 : Nat) ^ (Ieee.Format.exponentBits FloatKind.f32.format + Ieee.Format.fractionBits FloatKind.f32.format) = 2 ^ 31 from rfl]
  have h : (b ^^^ 2 ^ 31).testBit 31 = !(b.testBit 31) := by
    rw [Nat.testBit_xor, Nat.testBit_two_pow_self]; simp
  have e : ∀ x : Nat, (x / 2147483648 % 2 == 1) = x.testBit 31 := by
    intro x
    rw [Nat.testBit_eq_decide_div_mod_eq]
    rfl
  rw [e, e, h]
theorem read_opp (b : Nat) : FloatKind.f32.format.read (Op.negFloat .f32 b) = (FloatKind.f32.format.read b).opposite := by
  have hs : Ieee.Format.signWeight FloatKind.f32.format = 2147483648 := by decide
  unfold Ieee.Format.read
  simp only [hs, neg_mod, neg_div]
  split
  · rfl
  · split
    · rfl
    · split <;> rfl
@[go_sem] theorem run_neg_float {P : Program} (k : FloatKind) (b : Nat) (w : World) : (Op.unary .neg (.float k b)).run P w = .ok (.float k (Op.negFloat k b)) w := rfl
@[go_sem] theorem ab_opp (b : Nat) : ab .f32 (Op.negFloat .f32 b) = opp (ab .f32 b) := by
  unfold ab opp
  rw [read_opp, opposite_nan]
  split <;> rfl

/-- The greater of two floats. -/
def fmax (x y : Option Nat) : Option Nat :=
  match ford .f32 x y with
  | none => none
  | some .lt => y
  | some .gt => x
  | some .eq => if (x.map fun b => (FloatKind.f32.format.read b).neg) = some true then y else x
theorem run_max_float {P : Program} (ts : Array TypeId) (t : TypeId) (x y : Nat) (w : World) :
    ∃ r n, (Builtin.max_ ts t #[.float .f32 x, .float .f32 y]).run P w = .ok (.float .f32 r) (w.drewN n) ∧ ab .f32 r = fmax (ab .f32 x) (ab .f32 y) := by
  have ho := order_ab .f32 x y
  unfold fmax
  rw [← ho]
  cases h : FloatKind.f32.format.order x y with
  | none =>
    refine ⟨(Question.nanMinMax .f32 true x y).cut (w.tape w.drawn (.nanMinMax .f32 true x y)), 1, ?_, ?_⟩
    · simp [Builtin.max_, Builtin.max2, h, Question.forced, World.drew_is_drewN]
    · exact cut_nan _ .f32 _ (Or.inr (Or.inr ⟨_, _, _, rfl⟩))
  | some c =>
    have hn := order_nan (show (FloatKind.f32.format.read x).order (FloatKind.f32.format.read y) = some c from h)
    have hx : ab .f32 x = some x := by unfold ab; rw [hn.1]; rfl
    cases c
    · exact ⟨y, 0, by simp [Builtin.max_, Builtin.max2, h, World.drewN_zero], rfl⟩
    · refine ⟨if (FloatKind.f32.decode x).neg then y else x, 0, by simp [Builtin.max_, Builtin.max2, h, World.drewN_zero], ?_⟩
      rw [hx]
      simp only [Option.map_some]
      show ab .f32 (if (FloatKind.f32.format.read x).neg = true then y else x) = _
      by_cases hb : (FloatKind.f32.format.read x).neg = true <;> simp [hx, hb]
    · exact ⟨x, 0, by simp [Builtin.max_, Builtin.max2, h, World.drewN_zero], rfl⟩
theorem upon_max {P : Program} {o : Oper} {a : Act} {K : Act → World → Prop} {Q : Exit → Act → World → Prop} {ts : Array TypeId} {t : TypeId} {x y : Nat} {w : World}
    (h : ∀ r n, ab .f32 r = fmax (ab .f32 x) (ab .f32 y) → K (a.put o.dst (.float .f32 r)) (w.drewN n)) :
    Oper.upon P o a K Q ((Sem.run P (Builtin.max_ ts t #[.float .f32 x, .float .f32 y]) w).andThen fun v w' => Result.ok (Next.value v) w') := by
  obtain ⟨r, n, hr, hx⟩ := run_max_float (P := P) ts t x y w
  rw [hr]
  exact h r n hx

/-- An absolute value, as the program reckons it, and as the reference does. -/
def absM (x : Option Nat) : Option Nat := fmax x (opp x)
def sizeM (x : Option Nat) : Option Nat := if (ford .f32 x (some 0) == some .lt || ford .f32 x (some 0) == some .eq) then fop .sub .f32 (some 0) x else x
set_option maxHeartbeats 400000 in
theorem absolute_any (x : Nat) (w : World) :
    Calls Try.prog 67 #[.float .f32 x] w (FltOk (absM (ab .f32 x)) w) := by
  go_enter Try.func67, Try.ntmps67
  go_wp2_with (refine upon_max ?_; intro r n hr; go_simp)
  go_ret
  exact ⟨_, rfl, by simp only [*, absM, ab_opp], by (repeat (first | (with_reducible assumption) | (with_reducible apply below_refl) | (with_reducible apply below_alloc1) | (with_reducible apply below_drewN1) | (with_reducible apply below_drew1)))⟩
set_option maxHeartbeats 400000 in
theorem l04Size_any (x : Nat) (w : World) :
    Calls Try.prog 63 #[.float .f32 x] w (FltOk (sizeM (ab .f32 x)) w) := by
  unfold sizeM
  cases h : (ford .f32 (ab .f32 x) (some 0) == some .lt || ford .f32 (ab .f32 x) (some 0) == some .eq)
  all_goals
    go_enter Try.func63, Try.ntmps63
    go_wp2_with (refine upon_float rfl ?_; intro r n hr; go_simp)
    go_ret
    exact ⟨_, rfl, by simp [*, ab_z32], by (repeat (first | (with_reducible assumption) | (with_reducible apply below_refl) | (with_reducible apply below_alloc1) | (with_reducible apply below_drewN1) | (with_reducible apply below_drew1)))⟩

/-- Two readings that no comparison tells apart. -/
def Alike (x y : Option Nat) : Prop := x = y ∨ (∃ v, IsV .f32 x v ∧ IsV .f32 y v) ∨ (∃ p q s, x = some p ∧ y = some q ∧ FloatKind.f32.format.read p = .infinity s ∧ FloatKind.f32.format.read q = .infinity s)
theorem ford_infinity (y : Nat) (t : Bool) (h : FloatKind.f32.format.read y = .infinity t) {x : Option Nat} {v : Int} (hx : IsV .f32 x v) : ford .f32 x (some y) = some (if t then .gt else .lt) ∧ ford .f32 (some y) x = some (if t then .lt else .gt) := by
  obtain ⟨p, s, m, i, rfl, e, _, _⟩ := hx.read
  constructor
  · show (FloatKind.f32.format.read p).order (FloatKind.f32.format.read y) = _
    rw [h, e]; rfl
  · show (FloatKind.f32.format.read y).order (FloatKind.f32.format.read p) = _
    rw [h, e]; rfl
theorem some_cases (b : Nat) : (∃ f t, FloatKind.f32.format.read b = .nan f t) ∨ (∃ s, FloatKind.f32.format.read b = .infinity s) ∨ ∃ v, IsV .f32 (some b) v := by
  cases h : FloatKind.f32.format.read b with
  | nan s t => exact Or.inl ⟨s, t, rfl⟩
  | infinity s => exact Or.inr (Or.inl ⟨s, rfl⟩)
  | number s m i =>
    right; right
    rcases ab_cases .f32 b with h1 | ⟨s', h1, h2⟩ | ⟨v, hv⟩
    · have := ab_none h1; rw [h] at this; cases this
    · rw [h] at h2; cases h2
    · have : ab .f32 b = some b := by unfold ab; rw [h]; rfl
      rw [this] at hv
      exact ⟨v, hv⟩
theorem Alike.ford {x y : Option Nat} (h : Alike x y) (z : Option Nat) : ford .f32 x z = ford .f32 y z ∧ ford .f32 z x = ford .f32 z y := by
  rcases h with rfl | ⟨v, hx, hy⟩ | ⟨p, q, s, rfl, rfl, hp, hq⟩
  · exact ⟨rfl, rfl⟩
  · cases z with
    | none => simp [ford_none_left, ford_none_right]
    | some c =>
      rcases some_cases c with ⟨f, t, hc⟩ | ⟨t, hc⟩ | ⟨u, hu⟩
      · obtain ⟨p, s, m, i, rfl, e, _, _⟩ := hx.read
        obtain ⟨q, s', m', i', rfl, e', _, _⟩ := hy.read
        constructor
        · show (FloatKind.f32.format.read p).order (FloatKind.f32.format.read c) = (FloatKind.f32.format.read q).order (FloatKind.f32.format.read c)
          rw [hc, e, e']; rfl
        · show (FloatKind.f32.format.read c).order (FloatKind.f32.format.read p) = (FloatKind.f32.format.read c).order (FloatKind.f32.format.read q)
          rw [hc]; rfl
      · have h1 := ford_infinity c t hc hx
        have h2 := ford_infinity c t hc hy
        exact ⟨by rw [h1.1, h2.1], by rw [h1.2, h2.2]⟩
      · exact ⟨by rw [ford_val hx hu, ford_val hy hu], by rw [ford_val hu hx, ford_val hu hy]⟩
  · cases z with
    | none => simp [ford_none_left, ford_none_right]
    | some c =>
      constructor
      · show (FloatKind.f32.format.read p).order (FloatKind.f32.format.read c) = (FloatKind.f32.format.read q).order (FloatKind.f32.format.read c)
        rw [hp, hq]
      · show (FloatKind.f32.format.read c).order (FloatKind.f32.format.read p) = (FloatKind.f32.format.read c).order (FloatKind.f32.format.read q)
        rw [hp, hq]
theorem opp_isV {x : Option Nat} {v : Int} (h : IsV .f32 x v) : IsV .f32 (opp x) (-v) := by
  obtain ⟨b, rfl, h1, h2⟩ := h
  refine ⟨Op.negFloat .f32 b, rfl, ?_, ?_⟩
  · have hs : Ieee.Format.signWeight FloatKind.f32.format = 2147483648 := by decide
    rw [hs] at h1 ⊢
    rw [neg_mod]; exact h1
  · have hs : Ieee.Format.signWeight FloatKind.f32.format = 2147483648 := by decide
    rw [← h2]
    unfold fv
    rw [hs, neg_mod, neg_div]
    cases (b / 2147483648 % 2 == 1) <;> simp
theorem abs_alike (b : Nat) : Alike (absM (ab .f32 b)) (sizeM (ab .f32 b)) := by
  rcases ab_cases .f32 b with h | ⟨s, h, hr⟩ | ⟨v, hv⟩
  · rw [h]; left
    simp [absM, sizeM, opp, fmax, ford_none_left]
  · rw [h]
    have r0 : FloatKind.f32.format.read 0 = .number false 0 (-149) := by decide
    have e0 : ford .f32 (some b) (some 0) = some (if s then .lt else .gt) := by
      show (FloatKind.f32.format.read b).order (FloatKind.f32.format.read 0) = _
      rw [hr, r0]; rfl
    have ro : FloatKind.f32.format.read (Op.negFloat .f32 b) = .infinity (!s) := by rw [read_opp, hr]; rfl
    have e1 : ford .f32 (some b) (opp (some b)) = some (if s then .lt else .gt) := by
      show (FloatKind.f32.format.read b).order (FloatKind.f32.format.read (Op.negFloat .f32 b)) = _
      rw [hr, ro]; cases s <;> rfl
    cases s with
    | false =>
      left
      simp [absM, sizeM, fmax, e0, e1]
    | true =>
      right; right
      have es : fop .sub .f32 (some 0) (some b) = some (FloatKind.f32.format.write (.infinity false)) := by
        show ((FloatKind.f32.format.read 0).sum (FloatKind.f32.format.read b).opposite).map _ = _
        rw [r0, hr]; rfl
      refine ⟨Op.negFloat .f32 b, FloatKind.f32.format.write (.infinity false), false, ?_, ?_, by rw [ro]; rfl, by decide⟩
      · unfold absM fmax; rw [e1]; rfl
      · simp [sizeM, e0, es]
  · right; left
    have ho := opp_isV hv
    rcases Int.lt_trichotomy v 0 with c | c | c
    · refine ⟨-v, ?_, ?_⟩
      · unfold absM fmax
        rw [ford_lt hv ho (by omega)]
        exact ho
      · unfold sizeM
        rw [ford_lt hv (isV_zero .f32) c]
        obtain ⟨u, hu, h1, h2⟩ := sub_within (isV_zero .f32) hv (rep_neg _ hv.rep) (rep_neg _ hv.rep) (by omega) (by omega)
        obtain rfl : u = -v := by omega
        exact hu
    · subst c
      refine ⟨0, ?_, ?_⟩
      · unfold absM fmax
        rw [ford_eq hv ho (by omega)]
        simp only
        split
        · simpa using ho
        · exact hv
      · unfold sizeM
        rw [ford_eq hv (isV_zero .f32) rfl]
        obtain ⟨u, hu, h1, h2⟩ := sub_within (isV_zero .f32) hv (rep_zero .f32) (rep_zero .f32) (by omega) (by omega)
        obtain rfl : u = 0 := by omega
        exact hu
    · refine ⟨v, ?_, ?_⟩
      · unfold absM fmax
        rw [ford_gt hv ho (by omega)]
        exact hv
      · unfold sizeM
        rw [ford_gt hv (isV_zero .f32) c]
        exact hv
/-- Comparisons of absolute values do not tell the two apart. -/
theorem abs_ford (x : Option Nat) (hx : ∃ b, ab .f32 b = x) (z : Option Nat) : ford .f32 (absM x) z = ford .f32 (sizeM x) z := by
  obtain ⟨b, rfl⟩ := hx
  exact ((abs_alike b).ford z).1
theorem ab_ab {k : FloatKind} {b c : Nat} (h : ab k b = some c) : ab k c = some c := by
  obtain ⟨h1, h2⟩ := ab_some h
  unfold ab
  rw [h1, h2]; rfl
theorem fop_ab (op : BinOp) (k : FloatKind) (x y : Option Nat) : ∃ b, ab k b = fop op k x y := by
  cases x with
  | none => exact ⟨_, by rw [fop_none_left]; exact cut_nan (.nanConv k 0) k 0 (Or.inr (Or.inl ⟨0, rfl⟩))⟩
  | some a =>
    cases y with
    | none => exact ⟨_, by rw [fop_none_right]; exact cut_nan (.nanConv k 0) k 0 (Or.inr (Or.inl ⟨0, rfl⟩))⟩
    | some b =>
      cases h : fop op k (some a) (some b) with
      | none => exact ⟨_, cut_nan (.nanConv k 0) k 0 (Or.inr (Or.inl ⟨0, rfl⟩))⟩
      | some r => exact ⟨r, (floatBits_nan h).1⟩

/-! ### OutOf -/
def outHit (xs : List Nat) (c wd : Option Nat) (k : Nat) : Bool := ford .f32 (sizeM (fop .sub .f32 (ab .f32 (xs.getD k 0)) c)) wd == some .gt
def outIx (xs : List Nat) (c wd : Option Nat) (k : Nat) : List Int := ((List.range k).filter (outHit xs c wd)).map fun (j : Nat) => (j : Int)
theorem outIx_yes {xs : List Nat} {c wd : Option Nat} {k : Nat} (h : outHit xs c wd k = true) : outIx xs c wd (k + 1) = outIx xs c wd k ++ [(k : Int)] := by
  unfold outIx; rw [List.range_succ, List.filter_append, List.map_append]; simp [h]
theorem outIx_no {xs : List Nat} {c wd : Option Nat} {k : Nat} (h : outHit xs c wd k = false) : outIx xs c wd (k + 1) = outIx xs c wd k := by
  unfold outIx; rw [List.range_succ, List.filter_append, List.map_append]; simp [h]
theorem outIx_len (xs : List Nat) (c wd : Option Nat) (k : Nat) : (outIx xs c wd k).length ≤ k := by
  unfold outIx; rw [List.length_map]
  exact Nat.le_trans (List.length_filter_le _ _) (by simp)
def outOk (xs : List Nat) (c wd : Option Nat) : Bool := toldB xs && finite32 c && notLessB wd
def outXs (xs : List Nat) (c wd : Option Nat) : List Int := if outOk xs c wd then outIx xs c wd xs.length else []
theorem out_no {xs : List Nat} {c wd : Option Nat} (h : outOk xs c wd = false) : outXs xs c wd = [] := by simp [outXs, h]
theorem out_yes {xs : List Nat} {c wd : Option Nat} (h : outOk xs c wd = true) : outXs xs c wd = outIx xs c wd xs.length := by simp [outXs, h]
theorem outXs_len (xs : List Nat) (c wd : Option Nat) : (outXs xs c wd).length ≤ 256 := by
  cases h : outOk xs c wd
  · rw [out_no h]; simp
  · rw [out_yes h]
    simp only [outOk, Bool.and_eq_true] at h
    have := toldB_true h.1.1
    exact Nat.le_trans (outIx_len _ _ _ _) this.2.1
theorem getD_at (xs : List Nat) (k : Nat) (h : k < xs.length) : xs.getD k 0 = xs[k] := by simp [h]
set_option maxRecDepth 100000 in
set_option maxHeartbeats 2000000 in
theorem implOutOf_any (v0 : Value) (xs : List Nat) (c wd : Nat) (w : World) (hv : RowAt w v0 (xs.map (Value.float .f32))) :
    Calls Try.prog 31 #[v0, .float .f32 c, .float .f32 wd] w (VRowOk 2 ((outXs xs (ab .f32 c) (ab .f32 wd)).map (Value.int .i64)) (outOk xs (ab .f32 c) (ab .f32 wd)) w) := by
  obtain ⟨i0, hi0, hz0, hz1, hz2⟩ := info_parts (P := Try.prog) (e := 2) (z := Value.int .i64 0) (size := 1) (bytes := 8) (by kernel_rfl)
  have HV := hid hv
  obtain ⟨ao, cap, b, off, rfl, hao, hl, hm, hc⟩ := hv
  simp only [List.length_map] at hl HV hao ⊢
  unfold maxLen at hm
  have HC := hid hc; clear hc
  have HA := hid hao; clear hao
  cases g0 : toldB xs
  · have HE := hid (out_no (xs := xs) (c := ab .f32 c) (wd := ab .f32 wd) (by simp [outOk, g0]))
    have HE2 := hid (show outOk xs (ab .f32 c) (ab .f32 wd) = false by simp [outOk, g0])
    have G0 := hid g0; clear g0
    go_enter Try.func31, Try.ntmps31
    go_wp2_with (first | (go_at_call 64; refine (isTold_any _ xs _ (HV.out.below (by (repeat (first | (with_reducible assumption) | (with_reducible apply below_refl) | (with_reducible apply below_alloc1) | (with_reducible apply below_drewN1) | (with_reducible apply below_drew1)))))).mono ?_; rw [G0.out]; rintro e w' ⟨rfl, hb⟩; have hB : Below w.heap.size w w' := below_trans (by (repeat (first | (with_reducible assumption) | (with_reducible apply below_refl) | (with_reducible apply below_alloc1) | (with_reducible apply below_drewN1) | (with_reducible apply below_drew1)))) hb; have hC := (bcell hB).1; clear hb))
    go_ret2
    exact ⟨_, by rw [HE2.out]; rfl, by rw [HE.out]; exact World.ownsRow_nil _ _ _ _, by assumption⟩
  have G0 := hid g0
  cases g1 : finite32 (ab .f32 c)
  · have HE := hid (out_no (xs := xs) (c := ab .f32 c) (wd := ab .f32 wd) (by simp [outOk, g1]))
    have HE2 := hid (show outOk xs (ab .f32 c) (ab .f32 wd) = false by simp [outOk, g1])
    have G1 := hid g1; clear g1
    go_enter Try.func31, Try.ntmps31
    go_wp2_with (first | (go_at_call 64; refine (isTold_any _ xs _ (HV.out.below (by (repeat (first | (with_reducible assumption) | (with_reducible apply below_refl) | (with_reducible apply below_alloc1) | (with_reducible apply below_drewN1) | (with_reducible apply below_drew1)))))).mono ?_; rw [G0.out]; rintro e w' ⟨rfl, hb⟩; have hB : Below w.heap.size w w' := below_trans (by (repeat (first | (with_reducible assumption) | (with_reducible apply below_refl) | (with_reducible apply below_alloc1) | (with_reducible apply below_drewN1) | (with_reducible apply below_drew1)))) hb; have hC := (bcell hB).1; clear hb) | (go_at_call 65; refine (implFinite_any _ _).mono ?_; rw [G1.out]; rintro e w' ⟨rfl, hb⟩; have hB : Below w.heap.size w w' := below_trans (by (repeat (first | (with_reducible assumption) | (with_reducible apply below_refl) | (with_reducible apply below_alloc1) | (with_reducible apply below_drewN1) | (with_reducible apply below_drew1)))) hb; have hC := (bcell hB).1; clear hb))
    go_ret2
    exact ⟨_, by rw [HE2.out]; rfl, by rw [HE.out]; exact World.ownsRow_nil _ _ _ _, by assumption⟩
  have G1 := hid g1
  cases g2 : notLessB (ab .f32 wd)
  · have HE := hid (out_no (xs := xs) (c := ab .f32 c) (wd := ab .f32 wd) (by simp [outOk, g2]))
    have HE2 := hid (show outOk xs (ab .f32 c) (ab .f32 wd) = false by simp [outOk, g2])
    have G2 := hid g2; clear g2
    go_enter Try.func31, Try.ntmps31
    go_wp2_with (first | (go_at_call 64; refine (isTold_any _ xs _ (HV.out.below (by (repeat (first | (with_reducible assumption) | (with_reducible apply below_refl) | (with_reducible apply below_alloc1) | (with_reducible apply below_drewN1) | (with_reducible apply below_drew1)))))).mono ?_; rw [G0.out]; rintro e w' ⟨rfl, hb⟩; have hB : Below w.heap.size w w' := below_trans (by (repeat (first | (with_reducible assumption) | (with_reducible apply below_refl) | (with_reducible apply below_alloc1) | (with_reducible apply below_drewN1) | (with_reducible apply below_drew1)))) hb; have hC := (bcell hB).1; clear hb) | (go_at_call 65; refine (implFinite_any _ _).mono ?_; rw [G1.out]; rintro e w' ⟨rfl, hb⟩; have hB : Below w.heap.size w w' := below_trans (by (repeat (first | (with_reducible assumption) | (with_reducible apply below_refl) | (with_reducible apply below_alloc1) | (with_reducible apply below_drewN1) | (with_reducible apply below_drew1)))) hb; have hC := (bcell hB).1; clear hb) | (go_at_call 66; refine (areNotLess_any _ [wd] _ (rowAt_alloc _ _ [.float .f32 wd] (by simp [maxLen]))).mono ?_; rw [show ([wd].all fun x => notLessB (ab .f32 x)) = notLessB (ab .f32 wd) by simp, G2.out]; rintro e w' ⟨rfl, hb⟩; have hB : Below w.heap.size w w' := below_trans (by (repeat (first | (with_reducible assumption) | (with_reducible apply below_refl) | (with_reducible apply below_alloc1) | (with_reducible apply below_drewN1) | (with_reducible apply below_drew1)))) hb; have hC := (bcell hB).1; clear hb))
    go_ret2
    exact ⟨_, by rw [HE2.out]; rfl, by rw [HE.out]; exact World.ownsRow_nil _ _ _ _, by assumption⟩
  have G2 := hid g2
  have HE2 := hid (show outOk xs (ab .f32 c) (ab .f32 wd) = true by simp [outOk, g0, g1, g2])
  have HE := hid (out_yes HE2.out)
  obtain ⟨l1, l2, _⟩ := toldB_true g0
  clear g0 g1 g2
  go_enter Try.func31, Try.ntmps31
  go_wp2_with (first | (go_at_call 64; refine (isTold_any _ xs _ (HV.out.below (by (repeat (first | (with_reducible assumption) | (with_reducible apply below_refl) | (with_reducible apply below_alloc1) | (with_reducible apply below_drewN1) | (with_reducible apply below_drew1)))))).mono ?_; rw [G0.out]; rintro e w' ⟨rfl, hb⟩; have hB : Below w.heap.size w w' := below_trans (by (repeat (first | (with_reducible assumption) | (with_reducible apply below_refl) | (with_reducible apply below_alloc1) | (with_reducible apply below_drewN1) | (with_reducible apply below_drew1)))) hb; have hC := (bcell hB).1; clear hb) | (go_at_call 65; refine (implFinite_any _ _).mono ?_; rw [G1.out]; rintro e w' ⟨rfl, hb⟩; have hB : Below w.heap.size w w' := below_trans (by (repeat (first | (with_reducible assumption) | (with_reducible apply below_refl) | (with_reducible apply below_alloc1) | (with_reducible apply below_drewN1) | (with_reducible apply below_drew1)))) hb; have hC := (bcell hB).1; clear hb) | (go_at_call 66; refine (areNotLess_any _ [wd] _ (rowAt_alloc _ _ [.float .f32 wd] (by simp [maxLen]))).mono ?_; rw [show ([wd].all fun x => notLessB (ab .f32 x)) = notLessB (ab .f32 wd) by simp, G2.out]; rintro e w' ⟨rfl, hb⟩; have hB : Below w.heap.size w w' := below_trans (by (repeat (first | (with_reducible assumption) | (with_reducible apply below_refl) | (with_reducible apply below_alloc1) | (with_reducible apply below_drewN1) | (with_reducible apply below_drew1)))) hb; have hC := (bcell hB).1; clear hb))
  have hsz := (show Below w.heap.size w _ from by assumption).size
  go_loopw [8, 28] (fun v y wr => ∃ k : Nat, k ≤ xs.length ∧ y = .int .i64 k ∧ Hid (wr.ownsRow w.heap.size 2 1 v ((outIx xs (ab .f32 c) (ab .f32 wd) k).map (Value.int .i64)).length ((outIx xs (ab .f32 c) (ab .f32 wd) k).map (Value.int .i64))) ∧ Below w.heap.size w wr) (fun _ y _ => xs.length - (intOf y).toNat)
  case atStart => exact ⟨0, by omega, rfl, hid (World.ownsRow_made _ #[] 0 hsz (by simp [maxLen]) rfl), by (repeat (first | (with_reducible assumption) | (with_reducible apply below_refl) | (with_reducible apply below_alloc1) | (with_reducible apply below_drewN1) | (with_reducible apply below_drew1)))⟩
  case round =>
    obtain ⟨k, hk, rfl, ho, hw⟩ := hrel
    have hC1 := (bcell hw).1
    by_cases hlt : k < xs.length
    · obtain rfl := HA.out (by omega)
      have hcell := rowc HC.out hw k hlt
      have hgd := getD_at xs k hlt
      have hlen := outIx_len xs (ab .f32 c) (ab .f32 wd) k
      generalize xs[k] = y at hcell hgd
      have hh : outHit xs (ab .f32 c) (ab .f32 wd) k = (ford .f32 (absM (fop .sub .f32 (ab .f32 y) (ab .f32 c))) (ab .f32 wd) == some .gt) := by
        unfold outHit; rw [hgd]; rw [abs_ford _ (fop_ab _ _ _ _)]
      have HG := hid hgd; clear hgd
      cases ht : (ford .f32 (absM (fop .sub .f32 (ab .f32 y) (ab .f32 c))) (ab .f32 wd) == some .gt)
      · have HN := hid (outIx_no (hh.trans ht))
        clear hh
        go_wp2_with (first
          | (refine upon_float rfl ?_; intro r n hr; go_simp)
          | (go_at_call 67; refine (absolute_any _ _).mono ?_; rintro e w' ⟨r, rfl, hr, hb⟩; have hB : Below wr.heap.size wr w' := below_trans (by (repeat (first | (with_reducible assumption) | (with_reducible apply below_refl) | (with_reducible apply below_alloc1) | (with_reducible apply below_drewN1) | (with_reducible apply below_drew1)))) hb; have hC := (bcell hB).1; clear hb))
        go_roundw
        case rel => exact ⟨k + 1, by omega, by go_num, hid (by rw [HN.out]; exact ownsRow_below ho.out (by (repeat (first | (with_reducible assumption) | (with_reducible apply below_refl) | (with_reducible apply below_alloc1) | (with_reducible apply below_drewN1) | (with_reducible apply below_drew1))))), below_trans hw (by (repeat (first | (with_reducible assumption) | (with_reducible apply below_refl) | (with_reducible apply below_alloc1) | (with_reducible apply below_drewN1) | (with_reducible apply below_drew1))))⟩
        case measure => simp [intOf]; omega
      · have HN := hid (outIx_yes (hh.trans ht))
        clear hh
        go_wp2_with (first
          | (refine upon_float rfl ?_; intro r n hr; go_simp)
          | (go_at_call 67; refine (absolute_any _ _).mono ?_; rintro e w' ⟨r, rfl, hr, hb⟩; have hB : Below wr.heap.size wr w' := below_trans (by (repeat (first | (with_reducible assumption) | (with_reducible apply below_refl) | (with_reducible apply below_alloc1) | (with_reducible apply below_drewN1) | (with_reducible apply below_drew1)))) hb; have hC := (bcell hB).1; clear hb)
          | (at_builtin; refine wpList_push rfl _ _ 24 rfl Try.underlying24 hi0 hz0 hz1 hz2 rfl w.heap.size _ _ rfl rfl (ownsRow_below ho.out (by (repeat (first | (with_reducible assumption) | (with_reducible apply below_refl) | (with_reducible apply below_alloc1) | (with_reducible apply below_drewN1) | (with_reducible apply below_drew1))))) rfl (by rw [List.length_map]; omega) (by decide) (Nat.le_trans hw.size (Below.size (show Below wr.heap.size wr _ by (repeat (first | (with_reducible assumption) | (with_reducible apply below_refl) | (with_reducible apply below_alloc1) | (with_reducible apply below_drewN1) | (with_reducible apply below_drew1)))))) ?_; intro v1 w2 hown hb2))
        go_roundw
        case rel => exact ⟨k + 1, by omega, by go_num, hid (by rw [HN.out, List.map_append]; exact hown), (below_trans hw (by (repeat (first | (with_reducible assumption) | (with_reducible apply below_refl) | (with_reducible apply below_alloc1) | (with_reducible apply below_drewN1) | (with_reducible apply below_drew1))))).trans hb2⟩
        case measure => simp [intOf]; omega
    · obtain rfl : k = xs.length := by omega
      go_wp2_with fail
      go_ret2
      exact ⟨_, by rw [HE2.out]; rfl, by rw [HE.out]; exact ho.out, hw⟩
set_option maxRecDepth 100000 in
set_option maxHeartbeats 2000000 in
theorem specOutOf_any (v0 : Value) (xs : List Nat) (c wd : Nat) (w : World) (hv : RowAt w v0 (xs.map (Value.float .f32))) :
    Calls Try.prog 29 #[v0, .float .f32 c, .float .f32 wd] w (VRowOk 2 ((outXs xs (ab .f32 c) (ab .f32 wd)).map (Value.int .i64)) (outOk xs (ab .f32 c) (ab .f32 wd)) w) := by
  obtain ⟨i0, hi0, hz0, hz1, hz2⟩ := info_parts (P := Try.prog) (e := 2) (z := Value.int .i64 0) (size := 1) (bytes := 8) (by kernel_rfl)
  have HV := hid hv
  obtain ⟨ao, cap, b, off, rfl, hao, hl, hm, hc⟩ := hv
  simp only [List.length_map] at hl HV hao ⊢
  unfold maxLen at hm
  have HC := hid hc; clear hc
  have HA := hid hao; clear hao
  cases g0 : toldB xs
  · have HE := hid (out_no (xs := xs) (c := ab .f32 c) (wd := ab .f32 wd) (by simp [outOk, g0]))
    have HE2 := hid (show outOk xs (ab .f32 c) (ab .f32 wd) = false by simp [outOk, g0])
    have G0 := hid g0; clear g0
    go_enter Try.func29, Try.ntmps29
    go_wp2_with (first | (go_at_call 60; refine (l06List_any _ xs _ (HV.out.below (by (repeat (first | (with_reducible assumption) | (with_reducible apply below_refl) | (with_reducible apply below_alloc1) | (with_reducible apply below_drewN1) | (with_reducible apply below_drew1)))))).mono ?_; rw [G0.out]; rintro e w' ⟨rfl, hb⟩; have hB : Below w.heap.size w w' := below_trans (by (repeat (first | (with_reducible assumption) | (with_reducible apply below_refl) | (with_reducible apply below_alloc1) | (with_reducible apply below_drewN1) | (with_reducible apply below_drew1)))) hb; have hC := (bcell hB).1; clear hb))
    go_ret2
    exact ⟨_, by rw [HE2.out]; rfl, by rw [HE.out]; exact World.ownsRow_nil _ _ _ _, by assumption⟩
  have G0 := hid g0
  cases g1 : finite32 (ab .f32 c)
  · have HE := hid (out_no (xs := xs) (c := ab .f32 c) (wd := ab .f32 wd) (by simp [outOk, g1]))
    have HE2 := hid (show outOk xs (ab .f32 c) (ab .f32 wd) = false by simp [outOk, g1])
    have G1 := hid g1; clear g1
    go_enter Try.func29, Try.ntmps29
    go_wp2_with (first | (go_at_call 60; refine (l06List_any _ xs _ (HV.out.below (by (repeat (first | (with_reducible assumption) | (with_reducible apply below_refl) | (with_reducible apply below_alloc1) | (with_reducible apply below_drewN1) | (with_reducible apply below_drew1)))))).mono ?_; rw [G0.out]; rintro e w' ⟨rfl, hb⟩; have hB : Below w.heap.size w w' := below_trans (by (repeat (first | (with_reducible assumption) | (with_reducible apply below_refl) | (with_reducible apply below_alloc1) | (with_reducible apply below_drewN1) | (with_reducible apply below_drew1)))) hb; have hC := (bcell hB).1; clear hb) | (go_at_call 61; refine (specFinite_any _ _).mono ?_; rw [G1.out]; rintro e w' ⟨rfl, hb⟩; have hB : Below w.heap.size w w' := below_trans (by (repeat (first | (with_reducible assumption) | (with_reducible apply below_refl) | (with_reducible apply below_alloc1) | (with_reducible apply below_drewN1) | (with_reducible apply below_drew1)))) hb; have hC := (bcell hB).1; clear hb))
    go_ret2
    exact ⟨_, by rw [HE2.out]; rfl, by rw [HE.out]; exact World.ownsRow_nil _ _ _ _, by assumption⟩
  have G1 := hid g1
  cases g2 : notLessB (ab .f32 wd)
  · have HE := hid (out_no (xs := xs) (c := ab .f32 c) (wd := ab .f32 wd) (by simp [outOk, g2]))
    have HE2 := hid (show outOk xs (ab .f32 c) (ab .f32 wd) = false by simp [outOk, g2])
    have G2 := hid g2; clear g2
    go_enter Try.func29, Try.ntmps29
    go_wp2_with (first | (go_at_call 60; refine (l06List_any _ xs _ (HV.out.below (by (repeat (first | (with_reducible assumption) | (with_reducible apply below_refl) | (with_reducible apply below_alloc1) | (with_reducible apply below_drewN1) | (with_reducible apply below_drew1)))))).mono ?_; rw [G0.out]; rintro e w' ⟨rfl, hb⟩; have hB : Below w.heap.size w w' := below_trans (by (repeat (first | (with_reducible assumption) | (with_reducible apply below_refl) | (with_reducible apply below_alloc1) | (with_reducible apply below_drewN1) | (with_reducible apply below_drew1)))) hb; have hC := (bcell hB).1; clear hb) | (go_at_call 61; refine (specFinite_any _ _).mono ?_; rw [G1.out]; rintro e w' ⟨rfl, hb⟩; have hB : Below w.heap.size w w' := below_trans (by (repeat (first | (with_reducible assumption) | (with_reducible apply below_refl) | (with_reducible apply below_alloc1) | (with_reducible apply below_drewN1) | (with_reducible apply below_drew1)))) hb; have hC := (bcell hB).1; clear hb) | (go_at_call 62; refine (l02Least_any _ _).mono ?_; rw [G2.out]; rintro e w' ⟨rfl, hb⟩; have hB : Below w.heap.size w w' := below_trans (by (repeat (first | (with_reducible assumption) | (with_reducible apply below_refl) | (with_reducible apply below_alloc1) | (with_reducible apply below_drewN1) | (with_reducible apply below_drew1)))) hb; have hC := (bcell hB).1; clear hb))
    go_ret2
    exact ⟨_, by rw [HE2.out]; rfl, by rw [HE.out]; exact World.ownsRow_nil _ _ _ _, by assumption⟩
  have G2 := hid g2
  have HE2 := hid (show outOk xs (ab .f32 c) (ab .f32 wd) = true by simp [outOk, g0, g1, g2])
  have HE := hid (out_yes HE2.out)
  obtain ⟨l1, l2, _⟩ := toldB_true g0
  clear g0 g1 g2
  go_enter Try.func29, Try.ntmps29
  go_wp2_with (first | (go_at_call 60; refine (l06List_any _ xs _ (HV.out.below (by (repeat (first | (with_reducible assumption) | (with_reducible apply below_refl) | (with_reducible apply below_alloc1) | (with_reducible apply below_drewN1) | (with_reducible apply below_drew1)))))).mono ?_; rw [G0.out]; rintro e w' ⟨rfl, hb⟩; have hB : Below w.heap.size w w' := below_trans (by (repeat (first | (with_reducible assumption) | (with_reducible apply below_refl) | (with_reducible apply below_alloc1) | (with_reducible apply below_drewN1) | (with_reducible apply below_drew1)))) hb; have hC := (bcell hB).1; clear hb) | (go_at_call 61; refine (specFinite_any _ _).mono ?_; rw [G1.out]; rintro e w' ⟨rfl, hb⟩; have hB : Below w.heap.size w w' := below_trans (by (repeat (first | (with_reducible assumption) | (with_reducible apply below_refl) | (with_reducible apply below_alloc1) | (with_reducible apply below_drewN1) | (with_reducible apply below_drew1)))) hb; have hC := (bcell hB).1; clear hb) | (go_at_call 62; refine (l02Least_any _ _).mono ?_; rw [G2.out]; rintro e w' ⟨rfl, hb⟩; have hB : Below w.heap.size w w' := below_trans (by (repeat (first | (with_reducible assumption) | (with_reducible apply below_refl) | (with_reducible apply below_alloc1) | (with_reducible apply below_drewN1) | (with_reducible apply below_drew1)))) hb; have hC := (bcell hB).1; clear hb))
  have hsz := (show Below w.heap.size w _ from by assumption).size
  go_loopw [8, 9] (fun v y wr => ∃ k : Nat, k ≤ xs.length ∧ y = .int .i64 k ∧ Hid (wr.ownsRow w.heap.size 2 1 v ((outIx xs (ab .f32 c) (ab .f32 wd) k).map (Value.int .i64)).length ((outIx xs (ab .f32 c) (ab .f32 wd) k).map (Value.int .i64))) ∧ Below w.heap.size w wr) (fun _ y _ => xs.length - (intOf y).toNat)
  case atStart => exact ⟨0, by omega, rfl, hid (World.ownsRow_made _ #[] 0 hsz (by simp [maxLen]) rfl), by (repeat (first | (with_reducible assumption) | (with_reducible apply below_refl) | (with_reducible apply below_alloc1) | (with_reducible apply below_drewN1) | (with_reducible apply below_drew1)))⟩
  case round =>
    obtain ⟨k, hk, rfl, ho, hw⟩ := hrel
    have hC1 := (bcell hw).1
    by_cases hlt : k < xs.length
    · obtain rfl := HA.out (by omega)
      have hcell := rowc HC.out hw k hlt
      have hgd := getD_at xs k hlt
      have hlen := outIx_len xs (ab .f32 c) (ab .f32 wd) k
      generalize xs[k] = y at hcell hgd
      have hh : outHit xs (ab .f32 c) (ab .f32 wd) k = (ford .f32 (sizeM (fop .sub .f32 (ab .f32 y) (ab .f32 c))) (ab .f32 wd) == some .gt) := by
        unfold outHit; rw [hgd]
      have HG := hid hgd; clear hgd
      cases ht : (ford .f32 (sizeM (fop .sub .f32 (ab .f32 y) (ab .f32 c))) (ab .f32 wd) == some .gt)
      · have HN := hid (outIx_no (hh.trans ht))
        clear hh
        go_wp2_with (first
          | (refine upon_float rfl ?_; intro r n hr; go_simp)
          | (go_at_call 63; refine (l04Size_any _ _).mono ?_; rintro e w' ⟨r, rfl, hr, hb⟩; have hB : Below wr.heap.size wr w' := below_trans (by (repeat (first | (with_reducible assumption) | (with_reducible apply below_refl) | (with_reducible apply below_alloc1) | (with_reducible apply below_drewN1) | (with_reducible apply below_drew1)))) hb; have hC := (bcell hB).1; clear hb))
        go_roundw
        case rel => exact ⟨k + 1, by omega, by go_num, hid (by rw [HN.out]; exact ownsRow_below ho.out (by (repeat (first | (with_reducible assumption) | (with_reducible apply below_refl) | (with_reducible apply below_alloc1) | (with_reducible apply below_drewN1) | (with_reducible apply below_drew1))))), below_trans hw (by (repeat (first | (with_reducible assumption) | (with_reducible apply below_refl) | (with_reducible apply below_alloc1) | (with_reducible apply below_drewN1) | (with_reducible apply below_drew1))))⟩
        case measure => simp [intOf]; omega
      · have HN := hid (outIx_yes (hh.trans ht))
        clear hh
        go_wp2_with (first
          | (refine upon_float rfl ?_; intro r n hr; go_simp)
          | (go_at_call 63; refine (l04Size_any _ _).mono ?_; rintro e w' ⟨r, rfl, hr, hb⟩; have hB : Below wr.heap.size wr w' := below_trans (by (repeat (first | (with_reducible assumption) | (with_reducible apply below_refl) | (with_reducible apply below_alloc1) | (with_reducible apply below_drewN1) | (with_reducible apply below_drew1)))) hb; have hC := (bcell hB).1; clear hb)
          | (at_builtin; refine wpList_push rfl _ _ 24 rfl Try.underlying24 hi0 hz0 hz1 hz2 rfl w.heap.size _ _ rfl rfl (ownsRow_below ho.out (by (repeat (first | (with_reducible assumption) | (with_reducible apply below_refl) | (with_reducible apply below_alloc1) | (with_reducible apply below_drewN1) | (with_reducible apply below_drew1))))) rfl (by rw [List.length_map]; omega) (by decide) (Nat.le_trans hw.size (Below.size (show Below wr.heap.size wr _ by (repeat (first | (with_reducible assumption) | (with_reducible apply below_refl) | (with_reducible apply below_alloc1) | (with_reducible apply below_drewN1) | (with_reducible apply below_drew1)))))) ?_; intro v1 w2 hown hb2))
        go_roundw
        case rel => exact ⟨k + 1, by omega, by go_num, hid (by rw [HN.out, List.map_append]; exact hown), (below_trans hw (by (repeat (first | (with_reducible assumption) | (with_reducible apply below_refl) | (with_reducible apply below_alloc1) | (with_reducible apply below_drewN1) | (with_reducible apply below_drew1))))).trans hb2⟩
        case measure => simp [intOf]; omega
    · obtain rfl : k = xs.length := by omega
      go_wp2_with fail
      go_ret2
      exact ⟨_, by rw [HE2.out]; rfl, by rw [HE.out]; exact ho.out, hw⟩
end Go.Proofs.Ytkonlchholfpoaa
