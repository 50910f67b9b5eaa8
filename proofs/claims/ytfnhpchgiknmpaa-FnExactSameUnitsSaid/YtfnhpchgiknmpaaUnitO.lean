/- Rows of units: an argument opened. No program in sight. -/
import Derived.Test.YtfnhpchgiknmpaaUnit
namespace Go.Proofs.Ytfnhpchgiknmpaa
open Go.ChangeShapes Go.WideShapes Go.ChangeAt Go.RowKit Go.Deep
instance : Inhabited Un := ⟨⟨0, false, []⟩⟩
section
variable {H : Type} {enc : TypeId × Value → H} {P : Program} {w : World}
theorem open_unitsW {t e r : TypeId} {f0 f1 f2 : Field} {a : Option Addr} {len cap : Nat} {d : DataW H} {ps : List MemPlace} (ht : P.underlying t = some (.slice e)) (he : P.underlying e = some (.struct #[f0, f1, f2])) (ce : P.cellsOf e = 3)
    (o0 : f0.offset = 0) (o1 : f1.offset = 1) (o2 : f2.offset = 2) (c0 : P.cellsOf f0.type = 1) (c1 : P.cellsOf f1.type = 1) (c2 : P.cellsOf f2.type = 1)
    (t0 : P.underlying f0.type = some (.float .f32)) (t1 : P.underlying f1.type = some .bool) (t2 : P.underlying f2.type = some (.slice r)) (hr : P.underlying r = some (.float .f32)) (cr : P.cellsOf r = 1)
    (h : DataW.Trod enc P w 0 (fun _ => true) true t (.slice a len cap) d ps) :
    ∃ us : List Un, UnitsAt w (.slice a len cap) us ∧ ∀ u ∈ us, u.t < 4294967296 ∧ ∀ b ∈ u.cs, b < 4294967296 := by
  obtain ⟨fuel, hf⟩ := h
  rcases open_slice ht hf with ⟨hcs, _⟩ | ⟨ad, l, c, m, n, D, Pl, hcs, _, hl, hm, hmm, _, hx⟩
  · simp [Value.cells] at hcs
    obtain ⟨rfl, rfl, rfl⟩ := hcs
    exact ⟨[], ⟨none, 0, 0, 0, rfl, by simp, by simp, by simp, fun k hk => by simp at hk⟩, by simp⟩
  · simp [Value.cells] at hcs
    obtain ⟨rfl, rfl, rfl⟩ := hcs
    simp at hmm
    rw [hmm] at hx
    clear hmm
    have each : ∀ i, i < len → ∃ u : Un, ∃ sa sc, w.cell? (ad.add (i * 3)) = some (.float .f32 u.t) ∧ w.cell? (ad.add (i * 3 + 1)) = some (.bool u.f) ∧ w.cell? (ad.add (i * 3 + 2)) = some (.slice sa u.cs.length sc) ∧ RowAt w (.slice sa u.cs.length sc) (u.cs.map (Value.float .f32)) ∧ u.t < 4294967296 ∧ ∀ b ∈ u.cs, b < 4294967296 := by
      intro i hi
      obtain ⟨cs', h1, h2⟩ := hx i (by omega)
      rw [ce] at h1
      obtain ⟨_, hlen, hcell⟩ := World.cells?_some h1
      obtain ⟨xs, k, hk, hxy, _, hxl, hfl⟩ := DataW.trod_struct he h2
      match xs, hxl, cs', hlen with
      | [y0, y1, y2], _, [v0, v1, v2], _ =>
        have g0 := hfl 0 f0 rfl
        have g1 := hfl 1 f1 rfl
        have g2 := hfl 2 f2 rfl
        simp [o0, o1, o2, c0, c1, c2] at g0 g1 g2
        have e0 := hcell 0 (by omega)
        have e1 := hcell 1 (by omega)
        have e2 := hcell 2 (by omega)
        rw [add_add] at e0 e1 e2
        have q0 : ∃ b, v0 = Value.float .f32 b ∧ b < 4294967296 := by
          cases k with
          | zero => simp [DataW.trod] at g0
          | succ k =>
            simp only [DataW.trod, t0] at g0
            cases v0 <;> simp at g0
            obtain ⟨⟨rfl, hw⟩, _⟩ := g0
            exact ⟨_, rfl, by simpa [Lit.wf] using hw⟩
        obtain ⟨b0, rfl, hb0⟩ := q0
        obtain ⟨b1, hb1, _⟩ := DataW.trod_bool t1 g1
        simp at hb1
        subst hb1
        have q2 : ∃ sa n2 sc, v2 = Value.slice sa n2 sc := by
          rcases open_slice1 t2 cr g2 with ⟨hcs, _⟩ | ⟨ad2, l2, c2', _, _, _, _, _, hcs, _⟩
          · simp at hcs; exact ⟨_, _, _, hcs⟩
          · simp at hcs; exact ⟨_, _, _, hcs⟩
        obtain ⟨sa, n2, sc, rfl⟩ := q2
        obtain ⟨bs, hrow, hbs⟩ := open_floats t2 hr cr (d := y2.1) (ps := y2.2) ⟨k, by simpa [Value.cells] using g2⟩
        have hlen2 : n2 = bs.length := by
          obtain ⟨_, _, _, _, he2, _⟩ := hrow
          simp only [List.length_map] at he2
          cases he2; rfl
        subst hlen2
        exact ⟨⟨b0, b1, bs⟩, sa, sc, by simpa using e0, by simpa using e1, by simpa using e2, hrow, hb0, hbs⟩
    obtain ⟨f, hf2⟩ := choose_lt each
    have hspot : 0 < len → ad = ⟨ad.block, ad.off, none⟩ := fun h0 => by
      obtain ⟨_, _, h1, _⟩ := hf2 0 h0
      have := World.cell?_spot h1
      obtain ⟨bb, oo, ss⟩ := ad
      simp [Addr.add] at this
      simp [this]
    refine ⟨(List.range len).map f, ⟨some ad, cap, ad.block, ad.off, by simp, fun h0 => by rw [← hspot (by simpa using h0)], by simpa using hl, hm, fun k hk => ?_⟩, fun u hu => ?_⟩
    rotate_left
    · obtain ⟨i, hi, rfl⟩ := List.mem_map.1 hu
      obtain ⟨_, _, _, _, _, _, h5, h6⟩ := hf2 i (List.mem_range.1 hi)
      exact ⟨h5, h6⟩
    have hk' : k < len := by simpa using hk
    obtain ⟨sa, sc, q0, q1, q2, q3, _⟩ := hf2 k hk'
    rw [hspot (by omega)] at q0 q1 q2
    rw [Go.WideShapes.add_plain] at q0 q1 q2
    simp only [List.getElem_map, List.getElem_range]
    exact ⟨sa, sc, q0, by rw [Nat.add_assoc]; exact q1, by rw [Nat.add_assoc]; exact q2, q3⟩
theorem open_units {t e r : TypeId} {f0 f1 f2 : Field} {a : Option Addr} {len cap : Nat} {d : DataW H} {ps : List MemPlace} (ht : P.underlying t = some (.slice e)) (he : P.underlying e = some (.struct #[f0, f1, f2])) (ce : P.cellsOf e = 3)
    (o0 : f0.offset = 0) (o1 : f1.offset = 1) (o2 : f2.offset = 2) (c0 : P.cellsOf f0.type = 1) (c1 : P.cellsOf f1.type = 1) (c2 : P.cellsOf f2.type = 1)
    (t0 : P.underlying f0.type = some (.float .f32)) (t1 : P.underlying f1.type = some .bool) (t2 : P.underlying f2.type = some (.slice r)) (hr : P.underlying r = some (.float .f32)) (cr : P.cellsOf r = 1)
    (h : DataW.Trod enc P w 0 (fun _ => true) true t (.slice a len cap) d ps) :
    ∃ us : List Un, UnitsAt w (.slice a len cap) us := by
  obtain ⟨us, h1, _⟩ := open_unitsW ht he ce o0 o1 o2 c0 c1 c2 t0 t1 t2 hr cr h
  exact ⟨us, h1⟩
end
end Go.Proofs.Ytfnhpchgiknmpaa
