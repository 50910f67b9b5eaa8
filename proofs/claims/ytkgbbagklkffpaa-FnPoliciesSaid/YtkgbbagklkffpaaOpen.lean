/- Arguments opened: what a law's walk is told of each. No program in sight. -/
import Derived.WalkKit
import Derived.ProofKit
import Derived.OpenShut
import Derived.Deep.Slices
import Derived.WalkLawsBesides
import Derived.Test.YtkgbbagklkffpaaLib
import Derived.Test.YtkgbbagklkffpaaRows
import Derived.Test.YtkgbbagklkffpaaOwn
import Derived.Test.YtkgbbagklkffpaaCom
namespace Go.Proofs.Ytkgbbagklkffpaa
open Go.RowKit

/-! ## Open -/
open Go.ChangeShapes Go.WideShapes Go.ChangeAt Go.RowKit Go.Deep

theorem lit_bounds64 {a : Int} (h : (Lit.int .i64 a).wf = true) : -9223372036854775808 ≤ a ∧ a ≤ 9223372036854775807 := by
  have h' : (decide (IntKind.min .i64 ≤ a) && decide (a ≤ IntKind.max .i64)) = true := h
  rw [show IntKind.min .i64 = -9223372036854775808 from by decide, show IntKind.max .i64 = 9223372036854775807 from by decide] at h'
  simpa using h'
theorem lit_bounds8 {a : Int} (h : (Lit.int .u8 a).wf = true) : 0 ≤ a ∧ a ≤ 255 := by
  have h' : (decide (IntKind.min .u8 ≤ a) && decide (a ≤ IntKind.max .u8)) = true := h
  rw [show IntKind.min .u8 = 0 from by decide, show IntKind.max .u8 = 255 from by decide] at h'
  simpa using h'

theorem list_as_map {α : Type} {xs : List Value} {f : α → Value} {q : α → Prop} (h : ∀ x ∈ xs, ∃ b, x = f b ∧ q b) : ∃ bs : List α, xs = bs.map f ∧ ∀ b ∈ bs, q b := by
  induction xs with
  | nil => exact ⟨[], rfl, by simp⟩
  | cons x xs ih =>
    obtain ⟨b, rfl, hb⟩ := h x (by simp)
    obtain ⟨bs, rfl, hbs⟩ := ih (fun y hy => h y (by simp [hy]))
    exact ⟨b :: bs, rfl, by simpa using ⟨hb, hbs⟩⟩

section
variable {H : Type} {enc : TypeId × Value → H} {P : Program} {w : World}

theorem open_row1 {t e : TypeId} {a : Option Addr} {len cap : Nat} {d : DataW H} {ps : List MemPlace} (ht : P.underlying t = some (.slice e)) (hc : P.cellsOf e = 1) (h : DataW.Trod enc P w 0 (fun _ => true) true t (.slice a len cap) d ps) :
    ∃ xs : List Value, RowAt w (.slice a len cap) xs ∧ ∀ x ∈ xs, ∃ n D Pl, DataW.trod enc P w 0 (fun _ => true) true n e [x] = some (D, Pl) := by
  obtain ⟨fuel, hf⟩ := h
  rcases open_slice1 ht hc hf with ⟨hcs, _⟩ | ⟨ad, l, c, m, n, V, D, Pl, hcs, _, hl, hm, hmm, _, hx⟩
  · simp [Value.cells] at hcs
    obtain ⟨rfl, rfl, rfl⟩ := hcs
    exact ⟨[], ⟨none, 0, 0, 0, rfl, by simp, by simp, by simp, by simp⟩, by simp⟩
  · simp [Value.cells] at hcs
    obtain ⟨rfl, rfl, rfl⟩ := hcs
    simp at hmm
    rw [hmm] at hx
    clear hmm
    refine ⟨(List.range len).map V, ?_, ?_⟩
    · obtain ⟨b, off, spot⟩ := ad
      refine ⟨some ⟨b, off, spot⟩, cap, b, off, by simp, fun h0 => ?_, by simpa using hl, hm, fun i x hi => ?_⟩
      · have h1 := (hx 0 (by simp at h0; omega)).1
        have hspot : spot = none := by simpa [Addr.add] using World.cell?_spot h1
        rw [hspot]
      · have hi' : i < len := by have := (List.getElem?_eq_some_iff.1 hi).1; simpa using this
        have h1 := (hx i (by omega)).1
        have hspot : spot = none := by
          have h2 := (hx 0 (by omega)).1
          simpa [Addr.add] using World.cell?_spot h2
        subst hspot
        rw [Go.WideShapes.add_plain] at h1
        rw [h1]
        simpa [hi'] using hi
    · intro x hx'
      obtain ⟨i, hi, rfl⟩ := List.mem_map.1 hx'
      exact ⟨n, D i, Pl i, (hx i (by simp at hi; omega)).2⟩

theorem open_floats {t e : TypeId} {a : Option Addr} {len cap : Nat} {d : DataW H} {ps : List MemPlace} (ht : P.underlying t = some (.slice e)) (he : P.underlying e = some (.float .f32)) (hc : P.cellsOf e = 1) (h : DataW.Trod enc P w 0 (fun _ => true) true t (.slice a len cap) d ps) :
    ∃ bs : List Nat, RowAt w (.slice a len cap) (bs.map (Value.float .f32)) ∧ ∀ b ∈ bs, b < 4294967296 := by
  obtain ⟨xs, hr, hx⟩ := open_row1 ht hc h
  obtain ⟨bs, rfl, hb⟩ := list_as_map (xs := xs) (f := Value.float .f32) (q := fun b => b < 4294967296) (fun x hxm => by
    obtain ⟨n, D, Pl, h1⟩ := hx x hxm
    cases n with
    | zero => simp [DataW.trod] at h1
    | succ n =>
      simp only [DataW.trod, he] at h1
      cases x <;> simp at h1
      obtain ⟨⟨rfl, hw⟩, _⟩ := h1
      exact ⟨_, rfl, by simpa [Lit.wf] using hw⟩)
  exact ⟨bs, hr, hb⟩

theorem open_ints64 {t e : TypeId} {a : Option Addr} {len cap : Nat} {d : DataW H} {ps : List MemPlace} (ht : P.underlying t = some (.slice e)) (he : P.underlying e = some (.int .i64)) (hc : P.cellsOf e = 1) (h : DataW.Trod enc P w 0 (fun _ => true) true t (.slice a len cap) d ps) :
    ∃ bs : List Int, RowAt w (.slice a len cap) (bs.map (Value.int .i64)) ∧ ∀ b ∈ bs, -9223372036854775808 ≤ b ∧ b ≤ 9223372036854775807 := by
  obtain ⟨xs, hr, hx⟩ := open_row1 ht hc h
  obtain ⟨bs, rfl, hb⟩ := list_as_map (xs := xs) (f := Value.int .i64) (q := fun b => -9223372036854775808 ≤ b ∧ b ≤ 9223372036854775807) (fun x hxm => by
    obtain ⟨n, D, Pl, h1⟩ := hx x hxm
    cases n with
    | zero => simp [DataW.trod] at h1
    | succ n =>
      simp only [DataW.trod, he] at h1
      cases x <;> simp at h1
      obtain ⟨⟨rfl, hw⟩, _⟩ := h1
      exact ⟨_, rfl, lit_bounds64 hw⟩)
  exact ⟨bs, hr, hb⟩

theorem open_bytes {t e : TypeId} {a : Option Addr} {len cap : Nat} {d : DataW H} {ps : List MemPlace} (ht : P.underlying t = some (.slice e)) (he : P.underlying e = some (.int .u8)) (hc : P.cellsOf e = 1) (h : DataW.Trod enc P w 0 (fun _ => true) true t (.slice a len cap) d ps) :
    ∃ bs : List Int, RowAt w (.slice a len cap) (bs.map (Value.int .u8)) ∧ ∀ b ∈ bs, 0 ≤ b ∧ b ≤ 255 := by
  obtain ⟨xs, hr, hx⟩ := open_row1 ht hc h
  obtain ⟨bs, rfl, hb⟩ := list_as_map (xs := xs) (f := Value.int .u8) (q := fun b => 0 ≤ b ∧ b ≤ 255) (fun x hxm => by
    obtain ⟨n, D, Pl, h1⟩ := hx x hxm
    cases n with
    | zero => simp [DataW.trod] at h1
    | succ n =>
      simp only [DataW.trod, he] at h1
      cases x <;> simp at h1
      obtain ⟨⟨rfl, hw⟩, _⟩ := h1
      exact ⟨_, rfl, lit_bounds8 hw⟩)
  exact ⟨bs, hr, hb⟩

theorem open_bools {t e : TypeId} {a : Option Addr} {len cap : Nat} {d : DataW H} {ps : List MemPlace} (ht : P.underlying t = some (.slice e)) (he : P.underlying e = some .bool) (hc : P.cellsOf e = 1) (h : DataW.Trod enc P w 0 (fun _ => true) true t (.slice a len cap) d ps) :
    ∃ bs : List Bool, RowAt w (.slice a len cap) (bs.map Value.bool) := by
  obtain ⟨xs, hr, hx⟩ := open_row1 ht hc h
  obtain ⟨bs, rfl, _⟩ := list_as_map (xs := xs) (f := Value.bool) (q := fun _ => True) (fun x hxm => by
    obtain ⟨n, D, Pl, h1⟩ := hx x hxm
    cases n with
    | zero => simp [DataW.trod] at h1
    | succ n =>
      simp only [DataW.trod, he] at h1
      cases x <;> simp at h1
      exact ⟨_, rfl, trivial⟩)
  exact ⟨bs, hr⟩

theorem wf_bounds {a : Int} (h : (Lit.int .i64 a).wf = true) : -9223372036854775808 ≤ a ∧ a ≤ 9223372036854775807 := lit_bounds64 h
theorem wf_float {b : Nat} (h : (Lit.float .f32 b).wf = true) : b < 4294967296 := by simpa [Lit.wf] using h

theorem trod_lt0 {t : TypeId} {v : Value} {d : DataW H} {ps : List MemPlace} (h : DataW.Trod enc P w 0 (fun _ => true) true t v d ps) : ∀ x ∈ ps, x.block < w.heap.size := by
  obtain ⟨m, hm⟩ := h; exact DataW.trod_lt m _ _ _ hm
end

/-! ## Eq -/
/-- One result that is a row of the call's own. -/
def RowOk (E : TypeId) (xs : List Value) (w : World) (e : Ending) (w' : World) : Prop := ∃ v, e = .returned v ∧ w'.ownsRow w.heap.size E 1 v xs.length xs ∧ Below w.heap.size w w'

theorem set_next {α : Type} (xs : List α) (f : α → Value) (z : Value) (k : Nat) (h : k < xs.length) :
    (((xs.take k).map f) ++ List.replicate (xs.length - k) z).set k (f xs[k]) = ((xs.take (k + 1)).map f) ++ List.replicate (xs.length - (k + 1)) z := by
  rw [List.set_append_right _ _ (by simp; omega)]
  rw [show (xs.length - k) = (xs.length - (k + 1)) + 1 by omega, List.replicate_succ]
  rw [show k - ((xs.take k).map f).length = 0 by simp; omega, List.set_cons_zero]
  rw [List.take_succ_eq_append_getElem h, List.map_append]
  simp
theorem take_set_drop (ms xs : List Value) (u : Value) (j : Nat) (hm : j < ms.length) (hx : j < xs.length) (hu : ms[j]? = some u) :
    (ms.take j ++ xs.drop j).set j u = ms.take (j + 1) ++ xs.drop (j + 1) := by
  rw [List.set_append_right _ _ (by simp; omega), show j - (ms.take j).length = 0 by simp; omega]
  rw [List.drop_eq_getElem_cons hx, List.set_cons_zero, List.take_succ_eq_append_getElem hm]
  rw [List.getElem?_eq_getElem hm] at hu
  cases hu
  rw [List.append_assoc]; rfl
theorem next_zero {α : Type} (xs : List α) (f : α → Value) (z : Value) (k : Nat) (h : k < xs.length) :
    (((xs.take k).map f) ++ List.replicate (xs.length - k) z)[k]? = some z := by
  have hk : ((xs.take k).map f).length = k := by simp; omega
  rw [List.getElem?_append_right (by omega), hk, Nat.sub_self, List.getElem?_replicate, if_pos (by omega)]

end Go.Proofs.Ytkgbbagklkffpaa
