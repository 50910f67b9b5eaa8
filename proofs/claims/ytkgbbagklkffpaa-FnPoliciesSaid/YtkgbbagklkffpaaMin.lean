/- The lesser of two floats. No program in sight. -/
import Derived.Test.YtkgbbagklkffpaaMag3
import Derived.Test.YtkgbbagklkffpaaFres
namespace Go.Proofs.Ytkgbbagklkffpaa
open Go.RowKit

def fmin (x y : Option Nat) : Option Nat :=
  match ford .f32 x y with
  | none => none
  | some .lt => x
  | some .gt => y
  | some .eq => if (x.map fun b => (FloatKind.f32.format.read b).neg) = some true then x else y
theorem mgr_less (f : Ieee.Format) {q r : Nat} (h : q < r) : mgr f q < mgr f r := by
  obtain ⟨D, K, rfl, e, hK, hD⟩ := rung_parts f q
  obtain ⟨D', K', rfl, e', hK', hD'⟩ := rung_parts f r
  rw [e, e']
  have hb := bnd_pos f
  have hp := Nat.two_pow_pos D
  rcases Nat.lt_trichotomy D D' with hd | hd | hd
  · have h1 := hD' (by omega)
    calc K * 2 ^ D < 2 * f.binade * 2 ^ D := Nat.mul_lt_mul_of_pos_right hK hp
      _ = f.binade * 2 ^ (D + 1) := by rw [Nat.pow_succ, Nat.mul_comm 2 f.binade, Nat.mul_assoc, Nat.mul_comm 2 (2 ^ D)]
      _ ≤ f.binade * 2 ^ D' := Nat.mul_le_mul_left _ (Nat.pow_le_pow_right (by decide) (by omega))
      _ ≤ K' * 2 ^ D' := Nat.mul_le_mul_right _ h1
  · subst hd
    exact Nat.mul_lt_mul_of_pos_right (by omega) hp
  · have h1 := hD (by omega)
    have h2 : (D' + 1) * f.binade ≤ D * f.binade := Nat.mul_le_mul_right _ (by omega)
    rw [Nat.add_mul, Nat.one_mul] at h2
    omega
theorem mgr_inj (f : Ieee.Format) {q r : Nat} (h : mgr f q = mgr f r) : q = r := by
  rcases Nat.lt_trichotomy q r with h1 | h1 | h1
  · have := mgr_less f h1; omega
  · exact h1
  · have := mgr_less f h1; omega
/-- One value, not zero: read alike. -/
theorem read_same {k : FloatKind} {x y : Option Nat} {v : Int} (hx : IsV k x v) (hy : IsV k y v) (hv : v ≠ 0) : ∃ a b, x = some a ∧ y = some b ∧ k.format.read a = k.format.read b := by
  obtain ⟨a, rfl, ha, ea⟩ := hx
  obtain ⟨b, rfl, hb, eb⟩ := hy
  refine ⟨a, b, rfl, rfl, ?_⟩
  unfold fv at ea eb
  have h : (a / k.format.signWeight % 2 == 1) = (b / k.format.signWeight % 2 == 1) ∧ mgr k.format (a % k.format.signWeight) = mgr k.format (b % k.format.signWeight) := by
    cases h1 : (a / k.format.signWeight % 2 == 1) <;> cases h2 : (b / k.format.signWeight % 2 == 1) <;> simp only [h1, h2] at ea eb <;> simp at ea eb <;> first | (refine ⟨rfl, ?_⟩; omega) | (exfalso; omega)
  unfold Ieee.Format.read
  rw [mgr_inj _ h.2, h.1]
theorem fop_same (op : BinOp) {k : FloatKind} {x y : Option Nat} {v : Int} (hx : IsV k x v) (hy : IsV k y v) (hv : v ≠ 0) (z : Option Nat) : fop op k x z = fop op k y z := by
  obtain ⟨a, b, rfl, rfl, h⟩ := read_same hx hy hv
  cases z with
  | none => rw [fop_none_right, fop_none_right]
  | some c =>
    show floatBits op k a c = floatBits op k b c
    unfold floatBits
    cases op <;> simp only [Ieee.Format.add, Ieee.Format.sub, Ieee.Format.mul, Ieee.Format.div, h]
theorem run_min_float {P : Program} (ts : Array TypeId) (t : TypeId) (x y : Nat) (w : World) :
    ∃ r n, (Builtin.min_ ts t #[.float .f32 x, .float .f32 y]).run P w = .ok (.float .f32 r) (w.drewN n) ∧ ab .f32 r = fmin (ab .f32 x) (ab .f32 y) := by
  have ho := order_ab .f32 x y
  unfold fmin
  rw [← ho]
  cases h : FloatKind.f32.format.order x y with
  | none =>
    refine ⟨(Question.nanMinMax .f32 false x y).cut (w.tape w.drawn (.nanMinMax .f32 false x y)), 1, ?_, ?_⟩
    · simp [Builtin.min_, Builtin.min2, h, Question.forced, World.drew_is_drewN]
    · exact cut_nan _ .f32 _ (Or.inr (Or.inr ⟨_, _, _, rfl⟩))
  | some c =>
    have hn := order_nan (show (FloatKind.f32.format.read x).order (FloatKind.f32.format.read y) = some c from h)
    have hx : ab .f32 x = some x := by unfold ab; rw [hn.1]; rfl
    cases c
    · exact ⟨x, 0, by simp [Builtin.min_, Builtin.min2, h, World.drewN_zero], rfl⟩
    · refine ⟨if (FloatKind.f32.decode x).neg then x else y, 0, by simp [Builtin.min_, Builtin.min2, h, World.drewN_zero], ?_⟩
      rw [hx]
      simp only [Option.map_some]
      show ab .f32 (if (FloatKind.f32.format.read x).neg = true then x else y) = _
      by_cases hb : (FloatKind.f32.format.read x).neg = true <;> simp [hx, hb]
    · exact ⟨y, 0, by simp [Builtin.min_, Builtin.min2, h, World.drewN_zero], rfl⟩
theorem upon_min {P : Program} {o : Oper} {a : Act} {K : Act → World → Prop} {Q : Exit → Act → World → Prop} {ts : Array TypeId} {t : TypeId} {x y : Nat} {w : World}
    (h : ∀ r n, ab .f32 r = fmin (ab .f32 x) (ab .f32 y) → K (a.put o.dst (.float .f32 r)) (w.drewN n)) :
    Oper.upon P o a K Q ((Sem.run P (Builtin.min_ ts t #[.float .f32 x, .float .f32 y]) w).andThen fun v w' => Result.ok (Next.value v) w') := by
  obtain ⟨r, n, hr, hx⟩ := run_min_float (P := P) ts t x y w
  rw [hr]
  exact h r n hx
end Go.Proofs.Ytkgbbagklkffpaa
