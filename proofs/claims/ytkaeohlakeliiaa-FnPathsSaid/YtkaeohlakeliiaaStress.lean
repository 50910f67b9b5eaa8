/- Contracts: StressFit. -/
import Derived.Test.YtkaeohlakeliiaaLine2
import Derived.Test.YtkaeohlakeliiaaLine3
import Derived.Test.YtkaeohlakeliiaaLog3
import Derived.Test.YtkaeohlakeliiaaPush
import Derived.Test.YtkaeohlakeliiaaQuiet
namespace Go.Proofs.Ytkaeohlakeliiaa
open Go.RowKit

def stK (kind : Int) (x : Option Nat) : Option Nat := if kind = 0 then fop .quo .f32 (some 1065353216) x else if kind = 1 then lg32 x else x
/-- Readings that are all numbers or infinities: the bits are told. -/
def someL (L : List (Option Nat)) : Prop := ∀ o ∈ L, o ≠ none
theorem bits_some {xs : List Nat} {L : List (Option Nat)} (h : xs.map (ab .f32) = L) (hs : someL L) : xs = bitsOf L := by
  subst h
  unfold bitsOf
  rw [List.map_map]
  have : ∀ x ∈ xs, ((fun o : Option Nat => o.getD 0) ∘ ab .f32) x = x := by
    intro x hx
    have h1 : ab .f32 x ≠ none := hs _ (List.mem_map.2 ⟨x, hx, rfl⟩)
    cases hb : ab .f32 x with
    | none => exact absurd hb h1
    | some b =>
      have := (ab_some hb).1
      simp only [Function.comp, hb]
      exact this
  rw [List.map_congr_left this, List.map_id']
def fitT (kind : Int) (xs : List Nat) : List (Option Nat) := xs.map fun b => stK kind (ab .f32 b)
def fitV (ys : List Nat) : List (Option Nat) := ys.map fun b => lg32 (ab .f32 b)
def fitOk (kind : Int) (xs ys : List Nat) : Bool := inB kind 0 2 && (xs.all fun b => moreB (ab .f32 b)) && (ys.all fun b => moreB (ab .f32 b))
def fitM (kind : Int) (xs ys : List Nat) : Option Nat × Option Nat × Bool :=
  if fitOk kind xs ys then ((lnM (bitsOf (fitT kind xs)) (bitsOf (fitV ys))).1.1, (lnM (bitsOf (fitT kind xs)) (bitsOf (fitV ys))).1.2.1, (lnM (bitsOf (fitT kind xs)) (bitsOf (fitV ys))).2) else (some 0, some 0, false)
theorem fit_no {kind : Int} {xs ys : List Nat} (h : fitOk kind xs ys = false) : fitM kind xs ys = (some 0, some 0, false) := by simp [fitM, h]
theorem fit_yes {kind : Int} {xs ys : List Nat} (h : fitOk kind xs ys = true) : fitM kind xs ys = ((lnM (bitsOf (fitT kind xs)) (bitsOf (fitV ys))).1.1, (lnM (bitsOf (fitT kind xs)) (bitsOf (fitV ys))).1.2.1, (lnM (bitsOf (fitT kind xs)) (bitsOf (fitV ys))).2) := by simp [fitM, h]
theorem fit_len {kind : Int} {xs ys : List Nat} (h : ys.length ≠ xs.length) : fitM kind xs ys = (some 0, some 0, false) := by
  cases hk : fitOk kind xs ys
  · exact fit_no hk
  · have hp : pathB (bitsOf (fitT kind xs)) (bitsOf (fitV ys)) = false := by
      simp [pathB, bitsOf, fitT, fitV, h]
    rw [fit_yes hk, lnM_no (by rw [lnRaw_no (by rw [lnOk, hp]; rfl)])]
/-- Two numbers and a sign. -/
def TwoOk (M : Option Nat × Option Nat × Bool) (w : World) (e : Ending) (w' : World) : Prop := ∃ a b, e = .returned (.tuple #[.float .f32 a, .float .f32 b, .bool M.2.2]) ∧ ab .f32 a = M.1 ∧ ab .f32 b = M.2.1 ∧ Below w.heap.size w w'
theorem twoOk_no {w w' : World} {M : Option Nat × Option Nat × Bool} (h : M = (some 0, some 0, false)) (hb : Below w.heap.size w w') : TwoOk M w (.returned (.tuple #[.float .f32 0, .float .f32 0, .bool false])) w' := ⟨0, 0, by rw [h], by rw [h]; exact ab_z32, by rw [h]; exact ab_z32, hb⟩
theorem lg_pb {x : Option Nat} {v : Int} (h : IsV .f32 x v) (h0 : 0 < v) : finite32 x = true := fin32_of_isV h
theorem more_gt {b : Nat} (h : moreB (ab .f32 b) = true) : ford .f32 (ab .f32 b) (some 0) = some .gt := by
  obtain ⟨v, hv, h0⟩ := more_isV h
  exact ford_gt hv (isV_zero .f32) h0
theorem more_fin {b : Nat} (h : moreB (ab .f32 b) = true) : finite32 (ab .f32 b) = true := by
  obtain ⟨v, hv, h0⟩ := more_isV h
  exact fin32_of_isV hv
theorem lgOk_at {b r : Nat} (h : moreB (ab .f32 b) = true) (hr : LgOk (ab .f32 b) r) : ab .f32 r = lg32 (ab .f32 b) ∧ lg32 (ab .f32 b) ≠ none := by
  obtain ⟨h1, h2⟩ := hr.1 (more_fin h)
  refine ⟨h1, fun e => ?_⟩
  rw [e] at h2
  simp [finite32, fin, fop_none_left, ford_none_left] at h2
theorem quo_some {b : Nat} (h : moreB (ab .f32 b) = true) : fop .quo .f32 (some 1065353216) (ab .f32 b) ≠ none := by
  obtain ⟨v, hv, h0⟩ := more_isV h
  have ho := isV_one32
  have hup : v ≤ (pw 277 : Int) := by
    obtain ⟨r, hr, he⟩ := hv.rep
    have h1 : mgr FloatKind.f32.format r ≤ pw 277 := by rw [← mgr32_top]; exact mgr_mono _ (by omega)
    omega
  intro e
  have hu := unit32
  have hle : pw 277 ≤ pw 149 * pw 149 := by rw [← pw_add]; exact pw_le (by omega)
  rw [← Int.ofNat_le, Int.natCast_mul] at hle
  obtain ⟨p, s, m, i, hp, e1, hi, ea⟩ := ho.read
  obtain ⟨q, t, n, j, hq, e2, hj, eb⟩ := hv.read
  rw [hq] at e
  cases hp
  have e3 : ((FloatKind.f32.format.read 1065353216).quotient (FloatKind.f32.format.fractionBits + 2) (FloatKind.f32.format.read q)).map FloatKind.f32.format.write = none := e
  rw [e1, e2] at e3
  have hn : n ≠ 0 := by
    intro h0
    subst h0
    rw [signed_eq] at eb
    cases t <;> simp at eb <;> omega
  simp only [Ieee.Datum.quotient, if_neg hn, Option.map_some] at e3
  cases e3
end Go.Proofs.Ytkaeohlakeliiaa
