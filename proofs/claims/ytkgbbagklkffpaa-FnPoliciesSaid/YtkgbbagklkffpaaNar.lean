/- A float64 made a float32: what the walk is told where the number fits. No program in sight. -/
import Derived.Test.YtkgbbagklkffpaaLog
namespace Go.Proofs.Ytkgbbagklkffpaa
open Go.RowKit

/-- The number fits, if it is one. -/
def Fits (x : Option Nat) : Prop := ∀ v, IsV .f64 x v → v.natAbs ≤ pw 1178
theorem Pb.fits {x : Option Nat} {a : Nat} (h : Pb x a) (ha : a ≤ 1178) : Fits x := by
  obtain ⟨v, hv, h1⟩ := h
  intro u hu
  rw [hu.val hv]
  exact Nat.le_trans h1 (pw_le ha)
theorem nar_pb {x : Option Nat} {v : Int} (hv : IsV .f64 x v) (h : v.natAbs ≤ pw 1178) : ∃ w, IsV .f32 (nar x) w := by
  have e : pw 253 * pw 925 = pw 1178 := (pw_add 253 925).symm
  obtain ⟨w, hw, _, _⟩ := nar_within hv (rep_neg _ (rep_pw32 253 (by omega))) (rep_pw32 253 (by omega)) (by rw [w925_pw, Int.neg_mul, ← Int.natCast_mul, e]; omega) (by rw [w925_pw, ← Int.natCast_mul, e]; omega)
  exact ⟨w, hw⟩
theorem convert_narrow {P : Program} (src dst : TypeId) (x : Nat) (w : World) (hs : (P.underlying src).isSome = true) (hd : P.underlying dst = some (.float .f32)) (hf : Fits (ab .f64 x)) :
    ∃ r n, (convert src dst (.float .f64 x)).run P w = .ok (.float .f32 r) (w.drewN n) ∧ ab .f32 r = nar (ab .f64 x) := by
  obtain ⟨u, hs'⟩ := Option.isSome_iff_exists.1 hs
  cases hx : Ieee.double.read x with
  | nan sg fr =>
    have ha : ab .f64 x = none := by unfold ab; rw [show FloatKind.f64.format.read x = .nan sg fr from hx]; rfl
    refine ⟨(Question.nanConv .f32 x).cut (w.tape w.drawn (.nanConv .f32 x)), 1, ?_, ?_⟩
    · cases u <;> simp [convert, run_underlying hs', run_underlying hd, Conv.floatToFloat, FloatKind.decode, FloatKind.format, hx, Question.forced, World.drew_is_drewN]
    · rw [ha, cut_nan _ .f32 _ (Or.inr (Or.inl ⟨x, rfl⟩))]; rfl
  | infinity sg =>
    have ha : ab .f64 x = some x := by unfold ab; rw [show FloatKind.f64.format.read x = .infinity sg from hx]; rfl
    refine ⟨Ieee.single.write (.infinity sg), 0, ?_, ?_⟩
    · cases u <;> simp [convert, run_underlying hs', run_underlying hd, Conv.floatToFloat, FloatKind.decode, FloatKind.encode, FloatKind.format, hx, World.drewN_zero]
    · rw [ha]
      show ab .f32 _ = some (Ieee.single.write (Ieee.double.read x))
      rw [hx]; unfold ab; rw [show (FloatKind.f32.format.read (Ieee.single.write (.infinity sg))).isNaN = false from read_write Ieee.single _ rfl]; rfl
  | number sg m e =>
    have ha : ab .f64 x = some x := by unfold ab; rw [show FloatKind.f64.format.read x = .number sg m e from hx]; rfl
    have hfit : (Ieee.single.read (Ieee.single.write (.number sg m e))).isInfinity = false := by
      rcases ab_cases .f64 x with h1 | ⟨s, h1, h2⟩ | ⟨v, hv⟩
      · rw [ha] at h1; cases h1
      · rw [show FloatKind.f64.format.read x = .number sg m e from hx] at h2; cases h2
      · obtain ⟨w', hw'⟩ := nar_pb hv (hf v hv)
        obtain ⟨b, s', m', i', hb, e', _, _⟩ := hw'.read
        rw [ha] at hb
        have hb' : Ieee.single.write (Ieee.double.read x) = b := Option.some.inj hb
        rw [hx] at hb'
        rw [hb', show Ieee.single.read b = .number s' m' i' from e']
        rfl
    refine ⟨Ieee.single.write (.number sg m e), 0, ?_, ?_⟩
    · cases u <;> simp [convert, run_underlying hs', run_underlying hd, Conv.floatToFloat, FloatKind.decode, FloatKind.encode, FloatKind.format, hx, hfit, World.drewN_zero]
    · rw [ha]
      show ab .f32 _ = some (Ieee.single.write (Ieee.double.read x))
      rw [hx]; unfold ab; rw [show (FloatKind.f32.format.read (Ieee.single.write (.number sg m e))).isNaN = false from read_write Ieee.single _ rfl]; rfl
theorem upon_narrow {P : Program} {o : Oper} {a : Act} {K : Act → World → Prop} {Q : Exit → Act → World → Prop} {src dst : TypeId} {x : Nat} {w : World} (hs : (P.underlying src).isSome = true) (hd : P.underlying dst = some (.float .f32)) (hf : Fits (ab .f64 x))
    (h : ∀ r n, ab .f32 r = nar (ab .f64 x) → K (a.put o.dst (.float .f32 r)) (w.drewN n)) :
    Oper.upon P o a K Q ((Sem.run P (convert src dst (.float .f64 x)) w).andThen fun v w' => Result.ok (Next.value v) w') := by
  obtain ⟨r, n, hr, hx⟩ := convert_narrow (P := P) src dst x w hs hd hf
  rw [hr]
  exact h r n hx
/-- The number that a slot counts. -/
def cntOf : Value → Int
  | .float _ b => fv FloatKind.f64.format b / (unit .f64 : Int)
  | _ => 0
theorem cnt_val {b : Nat} {n : Int} (h : ab .f64 b = k64 n) (hn : n.natAbs < 9007199254740992) : cntOf (.float .f64 b) = n := by
  have hb : b = floatOfInt .f64 n := by
    have := (ab_some h).1; exact this.symm
  obtain ⟨c, hc, _, h2⟩ := isV_k64 n hn
  have hc' : floatOfInt .f64 n = c := Option.some.inj hc
  show fv FloatKind.f64.format b / (unit .f64 : Int) = n
  rw [hb, hc', h2, unit64]
  have := pw_pos 1074
  exact Int.mul_ediv_cancel _ (by omega)
/-- The bits of a logarithm, of a positive number. -/
def logX (x : Option Nat) : Option Nat := if finite32 x then nar (lgM (wid x)) else x
end Go.Proofs.Ytkgbbagklkffpaa
