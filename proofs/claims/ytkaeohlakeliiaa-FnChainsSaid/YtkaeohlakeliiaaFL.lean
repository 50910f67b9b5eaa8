/- Lists of floats as they are read; rows of them; results that are such a row with numbers. -/
import Derived.Test.YtkaeohlakeliiaaCom
import Derived.Test.YtkaeohlakeliiaaOwn
import Derived.Test.YtkaeohlakeliiaaRow
namespace Go.Proofs.Ytkaeohlakeliiaa
open Go.RowKit

/-- The bits where all are numbers. -/
def bitsOf (L : List (Option Nat)) : List Nat := L.map (·.getD 0)
def finL (L : List (Option Nat)) : Bool := L.all finite32
theorem finL_map (xs : List Nat) : (xs.all fun b => finB (ab .f32 b)) = finL (xs.map (ab .f32)) := by
  unfold finL finB
  rw [List.all_map]; rfl
theorem fin_some {x : Option Nat} (h : finite32 x = true) : ∃ b, x = some b := by
  cases x with
  | none => simp [finite32, fin, fop_none_left, ford_none_left] at h
  | some b => exact ⟨b, rfl⟩
theorem bits_of_fin (xs : List Nat) (h : finL (xs.map (ab .f32)) = true) : bitsOf (xs.map (ab .f32)) = xs := by
  unfold bitsOf
  rw [List.map_map]
  unfold finL at h
  rw [List.all_map, List.all_eq_true] at h
  have : ∀ x ∈ xs, ((fun o : Option Nat => o.getD 0) ∘ ab .f32) x = x := by
    intro x hx
    obtain ⟨b, hb⟩ := fin_some (h x hx)
    have := (ab_some hb).1
    simp only [Function.comp, hb]
    exact this
  rw [List.map_congr_left this, List.map_id']
theorem ab_bits (L : List (Option Nat)) (xs : List Nat) (hL : xs.map (ab .f32) = L) (h : finL L = true) : xs = bitsOf L := by
  subst hL; exact (bits_of_fin xs h).symm
theorem range_next {α : Type} (f : Nat → α) (k : Nat) : (List.range (k + 1)).map f = (List.range k).map f ++ [f k] := by rw [List.range_succ, List.map_append]; rfl
theorem fl_push {xs : List Nat} {L : List (Option Nat)} {r : Nat} {o : Option Nat} (h : xs.map (ab .f32) = L) (hr : ab .f32 r = o) : (xs ++ [r]).map (ab .f32) = L ++ [o] := by rw [List.map_append, h]; simp [hr]
theorem fl_vals (xs : List Nat) (r : Nat) : (xs ++ [r]).map (Value.float .f32) = xs.map (Value.float .f32) ++ [.float .f32 r] := by rw [List.map_append]; rfl

/-- Results: a row of floats, a number, a sign. -/
def FRowNumOk (E : TypeId) (xs : List Nat) (d : Int) (ok : Bool) (w : World) (e : Ending) (w' : World) : Prop :=
  ∃ v, e = .returned (.tuple #[v, .int .i64 d, .bool ok]) ∧ w'.ownsRow w.heap.size E 1 v (xs.map (Value.float .f32)).length (xs.map (Value.float .f32)) ∧ Below w.heap.size w w'
/-- Results: a row of floats, a sign. -/
def FRowOk (E : TypeId) (xs : List Nat) (ok : Bool) (w : World) (e : Ending) (w' : World) : Prop :=
  ∃ v, e = .returned (.tuple #[v, .bool ok]) ∧ w'.ownsRow w.heap.size E 1 v (xs.map (Value.float .f32)).length (xs.map (Value.float .f32)) ∧ Below w.heap.size w w'
/-- Results: a row, a sign. -/
def VRowOk (E : TypeId) (xs : List Value) (ok : Bool) (w : World) (e : Ending) (w' : World) : Prop :=
  ∃ v, e = .returned (.tuple #[v, .bool ok]) ∧ w'.ownsRow w.heap.size E 1 v xs.length xs ∧ Below w.heap.size w w'
theorem frowNum_no {E : TypeId} {xs : List Nat} {d : Int} {ok : Bool} {w w' : World} (h1 : xs = []) (h2 : d = 0) (h3 : ok = false) (hb : Below w.heap.size w w') : FRowNumOk E xs d ok w (.returned (.tuple #[.slice none 0 0, .int .i64 0, .bool false])) w' := by
  subst h1 h2 h3
  exact ⟨_, rfl, World.ownsRow_nil _ _ _ _, hb⟩
theorem frowNum_yes {E : TypeId} {xs : List Nat} {d d' : Int} {ok : Bool} {v : Value} {w w' : World} (h2 : d = d') (h3 : ok = true) (ho : w'.ownsRow w.heap.size E 1 v (xs.map (Value.float .f32)).length (xs.map (Value.float .f32))) (hb : Below w.heap.size w w') : FRowNumOk E xs d ok w (.returned (.tuple #[v, .int .i64 d', .bool true])) w' := by
  subst h2 h3
  exact ⟨_, rfl, ho, hb⟩
theorem frow_no {E : TypeId} {xs : List Nat} {ok : Bool} {w w' : World} (h1 : xs = []) (h3 : ok = false) (hb : Below w.heap.size w w') : FRowOk E xs ok w (.returned (.tuple #[.slice none 0 0, .bool false])) w' := by
  subst h1 h3
  exact ⟨_, rfl, World.ownsRow_nil _ _ _ _, hb⟩
theorem frow_yes {E : TypeId} {xs : List Nat} {ok : Bool} {v : Value} {w w' : World} (h3 : ok = true) (ho : w'.ownsRow w.heap.size E 1 v (xs.map (Value.float .f32)).length (xs.map (Value.float .f32))) (hb : Below w.heap.size w w') : FRowOk E xs ok w (.returned (.tuple #[v, .bool true])) w' := by
  subst h3
  exact ⟨_, rfl, ho, hb⟩
end Go.Proofs.Ytkaeohlakeliiaa
