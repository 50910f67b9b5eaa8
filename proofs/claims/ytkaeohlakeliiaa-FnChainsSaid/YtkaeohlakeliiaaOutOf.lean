/- Contracts: absolute values, OutOf. -/
import Derived.Test.YtkaeohlakeliiaaSide
import Derived.Test.YtkaeohlakeliiaaFL
import Derived.Test.YtkaeohlakeliiaaFres
namespace Go.Proofs.Ytkaeohlakeliiaa
open Go.RowKit

/-! ### the opposite, the greater one -/
def opp (x : Option Nat) : Option Nat := x.map (Op.negFloat .f32)
theorem neg_mod (b : Nat) : Op.negFloat .f32 b % 2147483648 = b % 2147483648 := by
  unfold Op.negFloat
  rw [show (2 : Nat) ^ (Ieee.Format.exponentBits FloatKind.f32.format + Ieee.Format.fractionBits FloatKind.f32.format) = 2 ^ 31 from rfl]
  rw [show (2147483648 : Nat) = 2 ^ 31 from rfl, Nat.xor_mod_two_pow]
  simp
theorem neg_div (b : Nat) : (Op.negFloat .f32 b / 2147483648 % 2 == 1) = !(b / 2147483648 % 2 == 1) := by
  unfold Op.negFloat
  rw [show (2 : Nat) ^ (Ieee.Format.exponentBits FloatKind.f32.format + Ieee.Format.fractionBits FloatKind.f32.format) = 2 ^ 31 from rfl]
  have h : (b ^^^ 2 ^ 31).testBit 31 = !(b.testBit 31) := by
    rw [Nat.testBit_xor, Nat.testBit_two_pow_self]; simp
  have e : ∀ x : Nat, (x / 2147483648 % 2 == 1) = x.testBit 31 := by
    intro x
    rw [Nat.testBit_eq_decide_div_mod_eq]
    rfl
  rw [e, e, h]
theorem read_opp (b : Nat) : FloatKind.f32.format.read (Op.negFloat .f32 b) = (FloatKind.f32.format.read b).opposite := by
  have hs : Ieee.Format.signWeight FloatKind.f32.format = 2147483648 := by decide
  unfold Ieee.Format.read
  simp only [hs, neg_mod, neg_div]
  split
  · rfl
  · split
    · rfl
    · split <;> rfl
@[go_sem] theorem run_neg_float {P : Program} (k : FloatKind) (b : Nat) (w : World) : (Op.unary .neg (.float k b)).run P w = .ok (.float k (Op.negFloat k b)) w := rfl
@[go_sem] theorem ab_opp (b : Nat) : ab .f32 (Op.negFloat .f32 b) = opp (ab .f32 b) := by
  unfold ab opp
  rw [read_opp, opposite_nan]
  split <;> rfl

/-- The greater of two floats. -/
def fmax (x y : Option Nat) : Option Nat :=
  match ford .f32 x y with
  | none => none
  | some .lt => y
  | some .gt => x
  | some .eq => if (x.map fun b => (FloatKind.f32.format.read b).neg) = some true then y else x
theorem run_max_float {P : Program} (ts : Array TypeId) (t : TypeId) (x y : Nat) (w : World) :
    ∃ r n, (Builtin.max_ ts t #[.float .f32 x, .float .f32 y]).run P w = .ok (.float .f32 r) (w.drewN n) ∧ ab .f32 r = fmax (ab .f32 x) (ab .f32 y) := by
  have ho := order_ab .f32 x y
  unfold fmax
  rw [← ho]
  cases h : FloatKind.f32.format.order x y with
  | none =>
    refine ⟨(Question.nanMinMax .f32 true x y).cut (w.tape w.drawn (.nanMinMax .f32 true x y)), 1, ?_, ?_⟩
    · simp [Builtin.max_, Builtin.max2, h, Question.forced, World.drew_is_drewN]
    · exact cut_nan _ .f32 _ (Or.inr (Or.inr ⟨_, _, _, rfl⟩))
  | some c =>
    have hn := order_nan (show (FloatKind.f32.format.read x).order (FloatKind.f32.format.read y) = some c from h)
    have hx : ab .f32 x = some x := by unfold ab; rw [hn.1]; rfl
    cases c
    · exact ⟨y, 0, by simp [Builtin.max_, Builtin.max2, h, World.drewN_zero], rfl⟩
    · refine ⟨if (FloatKind.f32.decode x).neg then y else x, 0, by simp [Builtin.max_, Builtin.max2, h, World.drewN_zero], ?_⟩
      rw [hx]
      simp only [Option.map_some]
      show ab .f32 (if (FloatKind.f32.format.read x).neg = true then y else x) = _
      by_cases hb : (FloatKind.f32.format.read x).neg = true <;> simp [hx, hb]
    · exact ⟨x, 0, by simp [Builtin.max_, Builtin.max2, h, World.drewN_zero], rfl⟩
theorem upon_max {P : Program} {o : Oper} {a : Act} {K : Act → World → Prop} {Q : Exit → Act → World → Prop} {ts : Array TypeId} {t : TypeId} {x y : Nat} {w : World}
    (h : ∀ r n, ab .f32 r = fmax (ab .f32 x) (ab .f32 y) → K (a.put o.dst (.float .f32 r)) (w.drewN n)) :
    Oper.upon P o a K Q ((Sem.run P (Builtin.max_ ts t #[.float .f32 x, .float .f32 y]) w).andThen fun v w' => Result.ok (Next.value v) w') := by
  obtain ⟨r, n, hr, hx⟩ := run_max_float (P := P) ts t x y w
  rw [hr]
  exact h r n hx

/-- An absolute value, as the program reckons it, and as the reference does. -/
def absM (x : Option Nat) : Option Nat := fmax x (opp x)
def sizeM (x : Option Nat) : Option Nat := if (ford .f32 x (some 0) == some .lt || ford .f32 x (some 0) == some .eq) then fop .sub .f32 (some 0) x else x
set_option maxHeartbeats 400000 in
theorem absolute_any (x : Nat) (w : World) :
    Calls Try.prog 92 #[.float .f32 x] w (FltOk (absM (ab .f32 x)) w) := by
  go_enter Try.func92, Try.ntmps92
  go_wp2_with (refine upon_max ?_; intro r n hr; go_simp)
  go_ret
  exact ⟨_, rfl, by simp only [*, absM, ab_opp], by (repeat (first | (with_reducible assumption) | (with_reducible apply below_refl) | (with_reducible apply below_alloc1) | (with_reducible apply below_drewN1) | (with_reducible apply below_drew1)))⟩

/-- Two readings that no comparison tells apart. -/
def Alike (x y : Option Nat) : Prop := x = y ∨ (∃ v, IsV .f32 x v ∧ IsV .f32 y v) ∨ (∃ p q s, x = some p ∧ y = some q ∧ FloatKind.f32.format.read p = .infinity s ∧ FloatKind.f32.format.read q = .infinity s)
theorem ford_infinity (y : Nat) (t : Bool) (h : FloatKind.f32.format.read y = .infinity t) {x : Option Nat} {v : Int} (hx : IsV .f32 x v) : ford .f32 x (some y) = some (if t then .gt else .lt) ∧ ford .f32 (some y) x = some (if t then .lt else .gt) := by
  obtain ⟨p, s, m, i, rfl, e, _, _⟩ := hx.read
  constructor
  · show (FloatKind.f32.format.read p).order (FloatKind.f32.format.read y) = _
    rw [h, e]; rfl
  · show (FloatKind.f32.format.read y).order (FloatKind.f32.format.read p) = _
    rw [h, e]; rfl
theorem some_cases (b : Nat) : (∃ f t, FloatKind.f32.format.read b = .nan f t) ∨ (∃ s, FloatKind.f32.format.read b = .infinity s) ∨ ∃ v, IsV .f32 (some b) v := by
  cases h : FloatKind.f32.format.read b with
  | nan s t => exact Or.inl ⟨s, t, rfl⟩
  | infinity s => exact Or.inr (Or.inl ⟨s, rfl⟩)
  | number s m i =>
    right; right
    rcases ab_cases .f32 b with h1 | ⟨s', h1, h2⟩ | ⟨v, hv⟩
    · have := ab_none h1; rw [h] at this; cases this
    · rw [h] at h2; cases h2
    · have : ab .f32 b = some b := by unfold ab; rw [h]; rfl
      rw [this] at hv
      exact ⟨v, hv⟩
theorem Alike.ford {x y : Option Nat} (h : Alike x y) (z : Option Nat) : ford .f32 x z = ford .f32 y z ∧ ford .f32 z x = ford .f32 z y := by
  rcases h with rfl | ⟨v, hx, hy⟩ | ⟨p, q, s, rfl, rfl, hp, hq⟩
  · exact ⟨rfl, rfl⟩
  · cases z with
    | none => simp [ford_none_left, ford_none_right]
    | some c =>
      rcases some_cases c with ⟨f, t, hc⟩ | ⟨t, hc⟩ | ⟨u, hu⟩
      · obtain ⟨p, s, m, i, rfl, e, _, _⟩ := hx.read
        obtain ⟨q, s', m', i', rfl, e', _, _⟩ := hy.read
        constructor
        · show (FloatKind.f32.format.read p).order (FloatKind.f32.format.read c) = (FloatKind.f32.format.read q).order (FloatKind.f32.format.read c)
          rw [hc, e, e']; rfl
        · show (FloatKind.f32.format.read c).order (FloatKind.f32.format.read p) = (FloatKind.f32.format.read c).order (FloatKind.f32.format.read q)
          rw [hc]; rfl
      · have h1 := ford_infinity c t hc hx
        have h2 := ford_infinity c t hc hy
        exact ⟨by rw [h1.1, h2.1], by rw [h1.2, h2.2]⟩
      · exact ⟨by rw [ford_val hx hu, ford_val hy hu], by rw [ford_val hu hx, ford_val hu hy]⟩
  · cases z with
    | none => simp [ford_none_left, ford_none_right]
    | some c =>
      constructor
      · show (FloatKind.f32.format.read p).order (FloatKind.f32.format.read c) = (FloatKind.f32.format.read q).order (FloatKind.f32.format.read c)
        rw [hp, hq]
      · show (FloatKind.f32.format.read c).order (FloatKind.f32.format.read p) = (FloatKind.f32.format.read c).order (FloatKind.f32.format.read q)
        rw [hp, hq]
theorem opp_isV {x : Option Nat} {v : Int} (h : IsV .f32 x v) : IsV .f32 (opp x) (-v) := by
  obtain ⟨b, rfl, h1, h2⟩ := h
  refine ⟨Op.negFloat .f32 b, rfl, ?_, ?_⟩
  · have hs : Ieee.Format.signWeight FloatKind.f32.format = 2147483648 := by decide
    rw [hs] at h1 ⊢
    rw [neg_mod]; exact h1
  · have hs : Ieee.Format.signWeight FloatKind.f32.format = 2147483648 := by decide
    rw [← h2]
    unfold fv
    rw [hs, neg_mod, neg_div]
    cases (b / 2147483648 % 2 == 1) <;> simp
theorem abs_alike (b : Nat) : Alike (absM (ab .f32 b)) (sizeM (ab .f32 b)) := by
  rcases ab_cases .f32 b with h | ⟨s, h, hr⟩ | ⟨v, hv⟩
  · rw [h]; left
    simp [absM, sizeM, opp, fmax, ford_none_left]
  · rw [h]
    have r0 : FloatKind.f32.format.read 0 = .number false 0 (-149) := by decide
    have e0 : ford .f32 (some b) (some 0) = some (if s then .lt else .gt) := by
      show (FloatKind.f32.format.read b).order (FloatKind.f32.format.read 0) = _
      rw [hr, r0]; rfl
    have ro : FloatKind.f32.format.read (Op.negFloat .f32 b) = .infinity (!s) := by rw [read_opp, hr]; rfl
    have e1 : ford .f32 (some b) (opp (some b)) = some (if s then .lt else .gt) := by
      show (FloatKind.f32.format.read b).order (FloatKind.f32.format.read (Op.negFloat .f32 b)) = _
      rw [hr, ro]; cases s <;> rfl
    cases s with
    | false =>
      left
      simp [absM, sizeM, fmax, e0, e1]
    | true =>
      right; right
      have es : fop .sub .f32 (some 0) (some b) = some (FloatKind.f32.format.write (.infinity false)) := by
        show ((FloatKind.f32.format.read 0).sum (FloatKind.f32.format.read b).opposite).map _ = _
        rw [r0, hr]; rfl
      refine ⟨Op.negFloat .f32 b, FloatKind.f32.format.write (.infinity false), false, ?_, ?_, by rw [ro]; rfl, by decide⟩
      · unfold absM fmax; rw [e1]; rfl
      · simp [sizeM, e0, es]
  · right; left
    have ho := opp_isV hv
    rcases Int.lt_trichotomy v 0 with c | c | c
    · refine ⟨-v, ?_, ?_⟩
      · unfold absM fmax
        rw [ford_lt hv ho (by omega)]
        exact ho
      · unfold sizeM
        rw [ford_lt hv (isV_zero .f32) c]
        obtain ⟨u, hu, h1, h2⟩ := sub_within (isV_zero .f32) hv (rep_neg _ hv.rep) (rep_neg _ hv.rep) (by omega) (by omega)
        obtain rfl : u = -v := by omega
        exact hu
    · subst c
      refine ⟨0, ?_, ?_⟩
      · unfold absM fmax
        rw [ford_eq hv ho (by omega)]
        simp only
        split
        · simpa using ho
        · exact hv
      · unfold sizeM
        rw [ford_eq hv (isV_zero .f32) rfl]
        obtain ⟨u, hu, h1, h2⟩ := sub_within (isV_zero .f32) hv (rep_zero .f32) (rep_zero .f32) (by omega) (by omega)
        obtain rfl : u = 0 := by omega
        exact hu
    · refine ⟨v, ?_, ?_⟩
      · unfold absM fmax
        rw [ford_gt hv ho (by omega)]
        exact hv
      · unfold sizeM
        rw [ford_gt hv (isV_zero .f32) c]
        exact hv
/-- Comparisons of absolute values do not tell the two apart. -/
theorem abs_ford (x : Option Nat) (hx : ∃ b, ab .f32 b = x) (z : Option Nat) : ford .f32 (absM x) z = ford .f32 (sizeM x) z := by
  obtain ⟨b, rfl⟩ := hx
  exact ((abs_alike b).ford z).1
theorem ab_ab {k : FloatKind} {b c : Nat} (h : ab k b = some c) : ab k c = some c := by
  obtain ⟨h1, h2⟩ := ab_some h
  unfold ab
  rw [h1, h2]; rfl
theorem fop_ab (op : BinOp) (k : FloatKind) (x y : Option Nat) : ∃ b, ab k b = fop op k x y := by
  cases x with
  | none => exact ⟨_, by rw [fop_none_left]; exact cut_nan (.nanConv k 0) k 0 (Or.inr (Or.inl ⟨0, rfl⟩))⟩
  | some a =>
    cases y with
    | none => exact ⟨_, by rw [fop_none_right]; exact cut_nan (.nanConv k 0) k 0 (Or.inr (Or.inl ⟨0, rfl⟩))⟩
    | some b =>
      cases h : fop op k (some a) (some b) with
      | none => exact ⟨_, cut_nan (.nanConv k 0) k 0 (Or.inr (Or.inl ⟨0, rfl⟩))⟩
      | some r => exact ⟨r, (floatBits_nan h).1⟩

/-! ### OutOf -/
def outHit (xs : List Nat) (c wd : Option Nat) (k : Nat) : Bool := ford .f32 (sizeM (fop .sub .f32 (ab .f32 (xs.getD k 0)) c)) wd == some .gt
def outIx (xs : List Nat) (c wd : Option Nat) (k : Nat) : List Int := ((List.range k).filter (outHit xs c wd)).map fun (j : Nat) => (j : Int)
theorem outIx_yes {xs : List Nat} {c wd : Option Nat} {k : Nat} (h : outHit xs c wd k = true) : outIx xs c wd (k + 1) = outIx xs c wd k ++ [(k : Int)] := by
  unfold outIx; rw [List.range_succ, List.filter_append, List.map_append]; simp [h]
theorem outIx_no {xs : List Nat} {c wd : Option Nat} {k : Nat} (h : outHit xs c wd k = false) : outIx xs c wd (k + 1) = outIx xs c wd k := by
  unfold outIx; rw [List.range_succ, List.filter_append, List.map_append]; simp [h]
theorem outIx_len (xs : List Nat) (c wd : Option Nat) (k : Nat) : (outIx xs c wd k).length ≤ k := by
  unfold outIx; rw [List.length_map]
  exact Nat.le_trans (List.length_filter_le _ _) (by simp)
def outOk (xs : List Nat) (c wd : Option Nat) : Bool := toldB xs && finite32 c && notLessB wd
def outXs (xs : List Nat) (c wd : Option Nat) : List Int := if outOk xs c wd then outIx xs c wd xs.length else []
theorem out_no {xs : List Nat} {c wd : Option Nat} (h : outOk xs c wd = false) : outXs xs c wd = [] := by simp [outXs, h]
theorem out_yes {xs : List Nat} {c wd : Option Nat} (h : outOk xs c wd = true) : outXs xs c wd = outIx xs c wd xs.length := by simp [outXs, h]
theorem outXs_len (xs : List Nat) (c wd : Option Nat) : (outXs xs c wd).length ≤ 256 := by
  cases h : outOk xs c wd
  · rw [out_no h]; simp
  · rw [out_yes h]
    simp only [outOk, Bool.and_eq_true] at h
    have := toldB_true h.1.1
    exact Nat.le_trans (outIx_len _ _ _ _) this.2.1
theorem getD_at (xs : List Nat) (k : Nat) (h : k < xs.length) : xs.getD k 0 = xs[k] := by simp [h]
end Go.Proofs.Ytkaeohlakeliiaa
