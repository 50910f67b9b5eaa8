/- Rows of rows of floats. No program in sight. -/
import Derived.Test.YtkaeohlakeliiaaOpen
import Derived.Test.YtkaeohlakeliiaaRow
namespace Go.Proofs.Ytkaeohlakeliiaa
open Go.ChangeShapes Go.WideShapes Go.ChangeAt Go.RowKit Go.Deep

/-- v reads as rows of floats. -/
def RowsAt (w : World) (v : Value) (xss : List (List Nat)) : Prop :=
  ∃ vs : List Value, RowAt w v vs ∧ vs.length = xss.length ∧ ∀ (i : Nat) (u : Value) (xs : List Nat), vs[i]? = some u → xss[i]? = some xs → RowAt w u (xs.map (Value.float .f32))
theorem RowsAt.below {w w' : World} {v : Value} {xss : List (List Nat)} (h : RowsAt w v xss) (hb : Below w.heap.size w w') : RowsAt w' v xss := by
  obtain ⟨vs, h1, h2, h3⟩ := h
  exact ⟨vs, h1.below hb, h2, fun i u xs hu hx => (h3 i u xs hu hx).below hb⟩
/-- One row of rows. -/
theorem RowsAt.one {w : World} {v : Value} {xss : List (List Nat)} (h : RowsAt w v xss) : ∃ ao cap b off, v = .slice ao xss.length cap ∧ (0 < xss.length → ao = some ⟨b, off, none⟩) ∧ xss.length ≤ cap ∧ cap ≤ maxLen ∧
    ∀ k (hk : k < xss.length), ∃ ao2 cap2, w.cell? ⟨b, off + k, none⟩ = some (.slice ao2 (xss[k]).length cap2) ∧ RowAt w (.slice ao2 (xss[k]).length cap2) ((xss[k]).map (Value.float .f32)) := by
  obtain ⟨vs, ⟨ao, cap, b, off, h1, h2, h3, h4, h5⟩, hlen, hr⟩ := h
  rw [hlen] at h1 h2 h3
  refine ⟨ao, cap, b, off, h1, h2, h3, h4, fun k hk => ?_⟩
  have hk' : k < vs.length := by omega
  have hrow := hr k vs[k] xss[k] (List.getElem?_eq_getElem hk') (List.getElem?_eq_getElem hk)
  have hcell := h5 k vs[k] (List.getElem?_eq_getElem hk')
  have hrow' := hrow
  obtain ⟨ao2, cap2, _, _, e, _⟩ := hrow'
  simp only [List.length_map] at e
  rw [e] at hrow hcell
  exact ⟨ao2, cap2, hcell, hrow⟩
section
variable {H : Type} {enc : TypeId × Value → H} {P : Program} {w : World}
theorem open_frows {t e q : TypeId} {a : Option Addr} {len cap : Nat} {d : DataW H} {ps : List MemPlace} (ht : P.underlying t = some (.slice e)) (hc : P.cellsOf e = 1) (he : P.underlying e = some (.slice q)) (hq : P.underlying q = some (.float .f32)) (hcq : P.cellsOf q = 1) (h : DataW.Trod enc P w 0 (fun _ => true) true t (.slice a len cap) d ps) :
    ∃ xss : List (List Nat), RowsAt w (.slice a len cap) xss ∧ ∀ xs ∈ xss, ∀ b ∈ xs, b < 4294967296 := by
  obtain ⟨vs, hr, hx⟩ := open_row1 ht hc h
  have each : ∀ i, i < vs.length → ∃ xs : List Nat, RowAt w (vs.getD i default) (xs.map (Value.float .f32)) ∧ ∀ b ∈ xs, b < 4294967296 := by
    intro i hi
    obtain ⟨n, D, Pl, h1⟩ := hx vs[i] (List.getElem_mem hi)
    have hg : vs.getD i default = vs[i] := by simp [hi]
    rw [hg]
    rcases open_slice1 he hcq h1 with ⟨hcs, _⟩ | ⟨ad, l, c, _, _, _, _, _, hcs, _⟩
    · have hv : vs[i] = .slice none 0 0 := by simpa using hcs
      rw [hv] at h1 ⊢
      exact open_floats he hq hcq (d := D) (ps := Pl) ⟨n, by simpa [Value.cells] using h1⟩
    · have hv : vs[i] = .slice (some ad) l c := by simpa using hcs
      rw [hv] at h1 ⊢
      exact open_floats he hq hcq (d := D) (ps := Pl) ⟨n, by simpa [Value.cells] using h1⟩
  obtain ⟨f, hf⟩ := choose_lt each
  refine ⟨(List.range vs.length).map f, ⟨vs, hr, by simp, ?_⟩, fun xs hxs => ?_⟩
  · intro i u xs hu hxs
    obtain ⟨hi, rfl⟩ := List.getElem?_eq_some_iff.1 hu
    have hg : vs.getD i default = vs[i] := by simp [hi]
    have := (hf i hi).1
    rw [hg] at this
    simp [hi] at hxs
    subst hxs
    exact this
  · obtain ⟨i, hi, rfl⟩ := List.mem_map.1 hxs
    exact (hf i (List.mem_range.1 hi)).2
end
end Go.Proofs.Ytkaeohlakeliiaa
