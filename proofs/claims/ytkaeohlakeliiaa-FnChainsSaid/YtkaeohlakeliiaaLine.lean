/- Contracts: PathLine. -/
import Derived.Test.YtkaeohlakeliiaaPath
import Derived.Test.YtkaeohlakeliiaaFres
namespace Go.Proofs.Ytkaeohlakeliiaa
open Go.RowKit

theorem results_four {fn : Func} {t u v x : Tmp} (h : fn.results = #[.tmp t, .tmp u, .tmp v, .tmp x]) (tmps : Array Value) (P : Program) (w : World) :
    (results fn tmps).run P w = .ok (.tuple #[tmps.getD t undef, tmps.getD u undef, tmps.getD v undef, tmps.getD x undef]) w := by
  simp [results, h]
def atX (xs : List Nat) (k : Nat) : Option Nat := ab .f32 (xs.getD k 0)
theorem atX_get {xs : List Nat} {k : Nat} (h : k < xs.length) : atX xs k = ab .f32 xs[k] := by unfold atX; rw [getD_at xs k h]
def sumX (xs : List Nat) : Nat → Option Nat
  | 0 => some 0
  | k + 1 => fop .add .f32 (sumX xs k) (atX xs k)
theorem sumX_next (xs : List Nat) (k : Nat) : sumX xs (k + 1) = fop .add .f32 (sumX xs k) (atX xs k) := rfl
def lnUp (T V : Option Nat) (xs ys : List Nat) : Nat → Option Nat
  | 0 => some 0
  | k + 1 => fop .add .f32 (lnUp T V xs ys k) (fop .mul .f32 (fop .sub .f32 (atX xs k) T) (fop .sub .f32 (atX ys k) V))
theorem lnUp_next (T V : Option Nat) (xs ys : List Nat) (k : Nat) : lnUp T V xs ys (k + 1) = fop .add .f32 (lnUp T V xs ys k) (fop .mul .f32 (fop .sub .f32 (atX xs k) T) (fop .sub .f32 (atX ys k) V)) := rfl
def lnDn (T : Option Nat) (xs : List Nat) : Nat → Option Nat
  | 0 => some 0
  | k + 1 => fop .add .f32 (lnDn T xs k) (fop .mul .f32 (fop .sub .f32 (atX xs k) T) (fop .sub .f32 (atX xs k) T))
theorem lnDn_next (T : Option Nat) (xs : List Nat) (k : Nat) : lnDn T xs (k + 1) = fop .add .f32 (lnDn T xs k) (fop .mul .f32 (fop .sub .f32 (atX xs k) T) (fop .sub .f32 (atX xs k) T)) := rfl
def lnLf (B S : Option Nat) (xs ys : List Nat) (k : Nat) : Option Nat := fop .sub .f32 (fop .sub .f32 (atX ys k) B) (fop .mul .f32 S (atX xs k))
def lnSq (B S : Option Nat) (xs ys : List Nat) : Nat → Option Nat
  | 0 => some 0
  | k + 1 => fop .add .f32 (lnSq B S xs ys k) (fop .mul .f32 (lnLf B S xs ys k) (lnLf B S xs ys k))
theorem lnSq_next (B S : Option Nat) (xs ys : List Nat) (k : Nat) : lnSq B S xs ys (k + 1) = fop .add .f32 (lnSq B S xs ys k) (fop .mul .f32 (fop .sub .f32 (fop .sub .f32 (atX ys k) B) (fop .mul .f32 S (atX xs k))) (fop .sub .f32 (fop .sub .f32 (atX ys k) B) (fop .mul .f32 S (atX xs k)))) := rfl
def lnN (xs : List Nat) : Option Nat := some (floatOfInt .f32 (xs.length : Int))
def lnT (xs : List Nat) : Option Nat := fop .quo .f32 (sumX xs xs.length) (lnN xs)
def lnV (xs ys : List Nat) : Option Nat := fop .quo .f32 (sumX ys xs.length) (lnN xs)
def lnD (xs : List Nat) : Option Nat := lnDn (lnT xs) xs xs.length
def lnS (xs ys : List Nat) : Option Nat := fop .quo .f32 (lnUp (lnT xs) (lnV xs ys) xs ys xs.length) (lnD xs)
def lnB (xs ys : List Nat) : Option Nat := fop .sub .f32 (lnV xs ys) (fop .mul .f32 (lnS xs ys) (lnT xs))
def lnQ (xs ys : List Nat) : Option Nat := fop .quo .f32 (lnSq (lnB xs ys) (lnS xs ys) xs ys xs.length) (lnN xs)
def lnOk (xs ys : List Nat) : Bool := pathB xs ys && !(ford .f32 (lnD xs) (some 0) == some .eq)
def lnFin (xs ys : List Nat) : Bool := finite32 (lnB xs ys) && finite32 (lnS xs ys) && finite32 (lnQ xs ys)
def lnRaw (xs ys : List Nat) : (Option Nat × Option Nat × Option Nat) × Bool := if lnOk xs ys then ((lnB xs ys, lnS xs ys, lnQ xs ys), lnFin xs ys) else ((some 0, some 0, some 0), false)
def lnM (xs ys : List Nat) : (Option Nat × Option Nat × Option Nat) × Bool := if (lnRaw xs ys).2 then lnRaw xs ys else ((some 0, some 0, some 0), false)
theorem lnRaw_no {xs ys : List Nat} (h : lnOk xs ys = false) : lnRaw xs ys = ((some 0, some 0, some 0), false) := by simp [lnRaw, h]
theorem lnRaw_yes {xs ys : List Nat} (h : lnOk xs ys = true) : lnRaw xs ys = ((lnB xs ys, lnS xs ys, lnQ xs ys), lnFin xs ys) := by simp [lnRaw, h]
theorem lnM_no {xs ys : List Nat} (h : (lnRaw xs ys).2 = false) : lnM xs ys = ((some 0, some 0, some 0), false) := by simp [lnM, h]
theorem lnM_yes {xs ys : List Nat} (h : (lnRaw xs ys).2 = true) : lnM xs ys = lnRaw xs ys := by simp [lnM, h]
/-- Three numbers and a sign. -/
def Num3Ok (M : (Option Nat × Option Nat × Option Nat) × Bool) (w : World) (e : Ending) (w' : World) : Prop := ∃ a b c, e = .returned (.tuple #[.float .f32 a, .float .f32 b, .float .f32 c, .bool M.2]) ∧ ab .f32 a = M.1.1 ∧ ab .f32 b = M.1.2.1 ∧ ab .f32 c = M.1.2.2 ∧ Below w.heap.size w w'
theorem num3_no {w w' : World} {M : (Option Nat × Option Nat × Option Nat) × Bool} (h : M = ((some 0, some 0, some 0), false)) (hb : Below w.heap.size w w') : Num3Ok M w (.returned (.tuple #[.float .f32 0, .float .f32 0, .float .f32 0, .bool false])) w' := ⟨0, 0, 0, by rw [h], by rw [h]; exact ab_z32, by rw [h]; exact ab_z32, by rw [h]; exact ab_z32, hb⟩

theorem areFinite_3 (v : Value) (x y z : Nat) {a b c : Option Nat} {r : Bool} (h1 : ab .f32 x = a) (h2 : ab .f32 y = b) (h3 : ab .f32 z = c) (h : (finite32 a && finite32 b && finite32 c) = r) (w : World) (hv : RowAt w v ([x, y, z].map (Value.float .f32))) :
    Calls Try.prog 58 #[v] w fun e w' => e = .returned (.bool r) ∧ Below w.heap.size w w' := by
  have : ([x, y, z].all fun b => finB (ab .f32 b)) = r := by
    rw [← h, ← h1, ← h2, ← h3]
    simp [finB, finite32, Bool.and_assoc]
  exact this ▸ areFinite_any v [x, y, z] w hv
set_option maxRecDepth 100000 in
set_option maxHeartbeats 800000 in
theorem addUp_any (v : Value) (xs : List Nat) (w : World) (hv : RowAt w v (xs.map (Value.float .f32))) :
    Calls Try.prog 78 #[v] w (FltOk (sumX xs xs.length) w) := by
  obtain ⟨ao, cap, b, off, rfl, hao, hl, hm, hc⟩ := hv
  simp only [List.length_map] at hl hao ⊢
  unfold maxLen at hm
  have HC := hid hc; clear hc
  have HA := hid hao; clear hao
  go_enter Try.func78, Try.ntmps78
  go_wp2_with fail
  go_loopw [3, 8] (fun x i wr => ∃ (k : Nat) (q : Nat), k ≤ xs.length ∧ i = .int .i64 k ∧ x = .float .f32 q ∧ ab .f32 q = sumX xs k ∧ Below w.heap.size w wr) (fun _ i _ => xs.length - (intOf i).toNat)
  case atStart => exact ⟨0, 0, Nat.zero_le _, rfl, rfl, ab_z32, by (repeat (first | (with_reducible assumption) | (with_reducible apply below_refl) | (with_reducible apply below_alloc1) | (with_reducible apply below_drewN1) | (with_reducible apply below_drew1)))⟩
  case round =>
    obtain ⟨k, q, hk, rfl, rfl, hq, hw⟩ := hrel
    have hC1 := (bcell hw).1
    by_cases hlt : k < xs.length
    · obtain rfl := HA.out (by omega)
      have hcell := rowc HC.out hw k hlt
      have hnx := sumX_next xs k
      rw [atX_get hlt, ← hq] at hnx
      have HN := hid hnx
      clear hnx hq
      generalize xs[k] = y at hcell HN
      go_wp2_with (first
        | go_quiet (fail)
        | (refine upon_float rfl ?_; intro r n hr; go_simp))
      go_roundw
      case rel => exact ⟨k + 1, _, by omega, by go_num, rfl, by rw [HN.out]; simp only [*], by (repeat (first | (with_reducible assumption) | (with_reducible apply below_refl) | (with_reducible apply below_alloc1) | (with_reducible apply below_drewN1) | (with_reducible apply below_drew1)))⟩
      case measure => simp [intOf]; omega
    · obtain rfl : k = xs.length := by omega
      go_wp2_with fail
      go_ret
      exact ⟨_, rfl, hq, by (repeat (first | (with_reducible assumption) | (with_reducible apply below_refl) | (with_reducible apply below_alloc1) | (with_reducible apply below_drewN1) | (with_reducible apply below_drew1)))⟩
end Go.Proofs.Ytkaeohlakeliiaa
