/- Contracts of the functions that many laws reach. -/
import Derived.Test.YtdjpbgdhjkbcmaaRows
import Derived.Test.YtdjpbgdhjkbcmaaLib
import Derived.Test.YtdjpbgdhjkbcmaaFlo
namespace Go.Proofs.Ytdjpbgdhjkbcmaa
open Go.RowKit

def fin (k : FloatKind) (x : Option Nat) : Bool := ford k (fop .sub k x x) (some 0) == some .eq
def finite32 (x : Option Nat) : Bool := fin .f32 x

set_option maxHeartbeats 400000 in
theorem specFinite_any (x : Nat) (w : World) :
    Calls Try.prog 47 #[.float .f32 x] w fun e w' => e = .returned (.bool (finite32 (ab .f32 x))) ∧ Below w.heap.size w w' := by
  go_enter Try.func47, Try.ntmps47
  go_wp2_with (refine upon_float rfl ?_; intro r n hr; go_simp)
  go_ret
  exact ⟨rfl, below_drewN _ _⟩

set_option maxHeartbeats 400000 in
theorem implFinite_any (x : Nat) (w : World) :
    Calls Try.prog 61 #[.float .f32 x] w fun e w' => e = .returned (.bool (finite32 (ab .f32 x))) ∧ Below w.heap.size w w' := by
  go_enter Try.func61, Try.ntmps61
  go_wp2_with (refine upon_float rfl ?_; intro r n hr; go_simp)
  go_ret
  exact ⟨rfl, below_drewN _ _⟩

/-- Where the first one is, or -1. -/
def idx (p : Option Nat → Bool) (bs : List Nat) : Int := match bs.findIdx? (fun b => p (ab .f32 b)) with | some i => i | none => -1

theorem idx_pos (p : Option Nat → Bool) (bs : List Nat) (k : Nat) (h : k < bs.length) (hno : ∀ j x, j < k → bs[j]? = some x → p (ab .f32 x) = false) (hy : p (ab .f32 bs[k]) = true) : idx p bs = k := by
  have : bs.findIdx? (fun b => p (ab .f32 b)) = some k := by
    rw [List.findIdx?_eq_some_iff_getElem]
    exact ⟨h, hy, fun j hj => by rw [hno j _ hj (List.getElem?_eq_getElem (by omega))]; simp⟩
  simp [idx, this]
theorem idx_neg (p : Option Nat → Bool) (bs : List Nat) (hno : ∀ j x, j < bs.length → bs[j]? = some x → p (ab .f32 x) = false) : idx p bs = -1 := by
  have : bs.findIdx? (fun b => p (ab .f32 b)) = none := by
    rw [List.findIdx?_eq_none_iff]
    intro x hx
    obtain ⟨j, hj, rfl⟩ := List.getElem_of_mem hx
    exact hno j _ hj (List.getElem?_eq_getElem hj)
  simp [idx, this]

theorem idx_any (p : Option Nat → Bool) (bs : List Nat) : decide (0 ≤ idx p bs) = bs.any fun b => p (ab .f32 b) := by
  unfold idx
  cases h : bs.findIdx? (fun b => p (ab .f32 b)) with
  | none =>
    rw [List.findIdx?_eq_none_iff] at h
    symm
    simpa using h
  | some i =>
    rw [List.findIdx?_eq_some_iff_getElem] at h
    obtain ⟨hi, hp, _⟩ := h
    have : (bs.any fun b => p (ab .f32 b)) = true := by rw [List.any_eq_true]; exact ⟨bs[i], List.getElem_mem hi, hp⟩
    rw [this]
    simp

set_option maxHeartbeats 400000 in
theorem indexFunc32 (F : FuncId) (p : Option Nat → Bool) (hE : ∀ args w, (callFunc F args).run Try.prog w = .ok (.enter F args) w) (hF : ∀ x w, Calls Try.prog F #[.float .f32 x] w fun e w' => e = .returned (.bool (p (ab .f32 x))) ∧ Below w.heap.size w w') (v : Value) (bs : List Nat) (w : World)
    (hv : RowAt w v (bs.map (Value.float .f32))) :
    Calls Try.prog 67 #[v, .func (.func F) #[] #[]] w fun e w' => e = .returned (.int .i64 (idx p bs)) ∧ Below w.heap.size w w' := by
  obtain ⟨ao, cap, b, off, rfl, hao, hl, hm, hc⟩ := hv
  have HF := hid hF; clear hF
  simp only [List.length_map] at hao hl ⊢
  unfold maxLen at hm
  go_enter Try.func67, Try.ntmps67
  go_wp2
  go_loopw [8] (fun i wr => ∃ k : Nat, k ≤ bs.length ∧ i = .int .i64 k ∧ (∀ j x, j < k → bs[j]? = some x → p (ab .f32 x) = false) ∧ Below w.heap.size w wr) (fun i _ => bs.length - (intOf i).toNat)
  case atStart => exact ⟨0, Nat.zero_le _, rfl, fun j x h => absurd h (Nat.not_lt_zero _), Below.refl _ _⟩
  case round =>
    obtain ⟨k, hk, rfl, hno, hb⟩ := hrel
    by_cases hlt : k < bs.length
    · obtain rfl := hao (by omega)
      have hcell : wr.cell? ⟨b, off + k, none⟩ = some (.float .f32 bs[k]) := by
        have h := hc k (.float .f32 bs[k]) (by simp [hlt])
        rw [hb.cell (p := ⟨b, off + k, none⟩) (World.block_lt_of_cell? w _ h)]; exact h
      have HN := hid hno; clear hno
      have HC := hid hc; clear hc hao
      cases hp : p (ab .f32 bs[k])
      all_goals
        go_wp2_with (refine (HF.out _ _).mono ?_; rintro e w' ⟨rfl, hb'⟩)
      · go_roundw
        case rel =>
          refine ⟨k + 1, by omega, by go_num, fun j x hj hx => ?_, below_trans hb hb'⟩
          by_cases hjk : j = k
          · subst hjk
            rw [List.getElem?_eq_getElem hlt] at hx
            cases hx; exact hp
          · exact HN.out j x (by omega) hx
        case measure => simp [intOf]; omega
      · go_ret
        exact ⟨by rw [idx_pos p bs k hlt HN.out hp]; rfl, below_trans hb hb'⟩
    · go_wp2
      go_ret
      exact ⟨by rw [idx_neg p bs (fun j x hj hx => hno j x (by omega) hx)]; rfl, hb⟩

set_option maxHeartbeats 400000 in
theorem containsFunc32 (F : FuncId) (p : Option Nat → Bool) (hE : ∀ args w, (callFunc F args).run Try.prog w = .ok (.enter F args) w) (hF : ∀ x w, Calls Try.prog F #[.float .f32 x] w fun e w' => e = .returned (.bool (p (ab .f32 x))) ∧ Below w.heap.size w w') (v : Value) (bs : List Nat) (w : World)
    (hv : RowAt w v (bs.map (Value.float .f32))) :
    Calls Try.prog 62 #[v, .func (.func F) #[] #[]] w fun e w' => e = .returned (.bool (bs.any fun b => p (ab .f32 b))) ∧ Below w.heap.size w w' := by
  have H : ∀ w, RowAt w v (bs.map (Value.float .f32)) → _ := fun w h => indexFunc32 F p hE hF v bs w h
  have H1 := hid H; clear H hF
  have H2 := hid hv; clear hv
  go_enter Try.func62, Try.ntmps62
  go_wp2_with (go_at_call 67; refine (H1.out _ H2.out).mono ?_; rintro e w' ⟨rfl, hb'⟩)
  go_ret
  exact ⟨by rw [← idx_any]; rfl, hb'⟩

set_option maxHeartbeats 400000 in
theorem areFinite_pred (x : Nat) (w : World) :
    Calls Try.prog 63 #[.float .f32 x] w fun e w' => e = .returned (.bool (!finite32 (ab .f32 x))) ∧ Below w.heap.size w w' := by
  go_enter Try.func63, Try.ntmps63
  go_wp2_with (go_at_call 61; refine (implFinite_any _ _).mono ?_; rintro e w' ⟨rfl, hb⟩)
  go_ret
  exact ⟨rfl, hb⟩

set_option maxHeartbeats 400000 in
theorem areFinite_any (v : Value) (bs : List Nat) (w : World) (hv : RowAt w v (bs.map (Value.float .f32))) :
    Calls Try.prog 48 #[v] w fun e w' => e = .returned (.bool (bs.all fun b => finite32 (ab .f32 b))) ∧ Below w.heap.size w w' := by
  have H := containsFunc32 63 (fun x => !finite32 x) (fun _ _ => by kernel_rfl) areFinite_pred v bs w hv
  have H2 := hid H; clear H
  go_enter Try.func48, Try.ntmps48
  go_wp2_with (go_at_call 62; refine (H2.out).mono ?_; rintro e w' ⟨rfl, hb'⟩)
  go_ret
  exact ⟨by simp [List.all_eq_not_any_not], hb'⟩

set_option maxHeartbeats 400000 in
theorem ifFinite_any (x : Nat) (w : World) :
    Calls Try.prog 46 #[.float .f32 x] w fun e w' => e = .returned (if finite32 (ab .f32 x) then .tuple #[.float .f32 x, .bool true] else .tuple #[.float .f32 0, .bool false]) ∧ Below w.heap.size w w' := by
  cases h : finite32 (ab .f32 x)
  all_goals
    go_enter Try.func46, Try.ntmps46
    go_wp2_with (go_at_call 61; refine (implFinite_any _ _).mono ?_; rintro e w' ⟨rfl, hb⟩)
    go_ret2
    exact ⟨rfl, hb⟩

set_option maxHeartbeats 800000 in
theorem sameFloat_yes (a b : Nat) (h : ab .f64 a = ab .f64 b) (w : World) :
    Calls Try.prog 22 #[.float .f64 a, .float .f64 b] w fun e w' => e = .returned (.bool true) ∧ Below w.heap.size w w' := by
  cases ha : ab .f64 a with
  | none =>
    have hb : ab .f64 b = none := by rw [← h, ha]
    clear h
    go_enter Try.func22, Try.ntmps22
    go_wp2_with (refine upon_float rfl ?_; intro r n hr; go_simp)
    go_ret
    exact ⟨rfl, below_refl _⟩
  | some c =>
    have hb := h.symm.trans ha
    obtain rfl := (ab_some ha).1
    obtain rfl := (ab_some hb).1
    clear h
    have hs := ford_self hb
    cases h0 : (ford .f64 (some c) (some 0) == some .eq)
    · go_enter Try.func22, Try.ntmps22
      go_wp2_with (refine upon_float rfl ?_; intro r n hr; go_simp)
      go_ret
      exact ⟨rfl, below_refl _⟩
    · go_enter Try.func22, Try.ntmps22
      go_wp2_with (refine upon_float rfl ?_; intro r n hr; go_simp)
      go_ret
      exact ⟨by simp, by (repeat (first | (with_reducible assumption) | (with_reducible apply below_refl) | (with_reducible apply below_alloc1) | (with_reducible apply below_drewN1) | (with_reducible apply below_drew1)))⟩
def shareB (x : Option Nat) : Bool := (ford .f32 x (some 0) == some .gt || ford .f32 x (some 0) == some .eq) && (ford .f32 x (some 1065353216) == some .lt || ford .f32 x (some 1065353216) == some .eq)
set_option maxHeartbeats 400000 in
theorem isShare_any (x : Nat) (w : World) :
    Calls Try.prog 45 #[.float .f32 x] w fun e w' => e = .returned (.bool (shareB (ab .f32 x))) ∧ Below w.heap.size w w' := by
  unfold shareB
  cases h0 : (ford .f32 (ab .f32 x) (some 0) == some .gt || ford .f32 (ab .f32 x) (some 0) == some .eq)
  all_goals
    go_enter Try.func45, Try.ntmps45
    go_wp2
    go_ret
    exact ⟨rfl, below_refl _⟩
set_option maxHeartbeats 400000 in
theorem l02Share_any (x : Nat) (w : World) :
    Calls Try.prog 43 #[.float .f32 x] w fun e w' => e = .returned (.bool (shareB (ab .f32 x))) ∧ Below w.heap.size w w' := by
  unfold shareB
  cases h0 : (ford .f32 (ab .f32 x) (some 0) == some .gt || ford .f32 (ab .f32 x) (some 0) == some .eq)
  all_goals
    go_enter Try.func43, Try.ntmps43
    go_wp2
    go_ret
    exact ⟨rfl, below_refl _⟩
set_option maxHeartbeats 400000 in
theorem l02Number_any (x : Nat) (w : World) :
    Calls Try.prog 44 #[.float .f32 x] w fun e w' => e = .returned (if finite32 (ab .f32 x) then .tuple #[.float .f32 x, .bool true] else .tuple #[.float .f32 0, .bool false]) ∧ Below w.heap.size w w' := by
  cases h : finite32 (ab .f32 x)
  all_goals
    go_enter Try.func44, Try.ntmps44
    go_wp2_with (go_at_call 47; refine (specFinite_any _ _).mono ?_; rintro e w' ⟨rfl, hb⟩)
    go_ret2
    exact ⟨rfl, hb⟩

/-- Two results that are a number and a sign: bits are told up to the NaN's. -/
def NumOk (M : Option Nat × Bool) (w : World) (e : Ending) (w' : World) : Prop := ∃ r, e = .returned (.tuple #[.float .f32 r, .bool M.2]) ∧ ab .f32 r = M.1 ∧ Below w.heap.size w w'

theorem numOk_no {w w' : World} {M : Option Nat × Bool} (h : M = (some 0, false)) (hb : Below w.heap.size w w') : NumOk M w (.returned (.tuple #[.float .f32 0, .bool false])) w' := ⟨0, by rw [h], by rw [h]; exact ab_z32, hb⟩

/-- A number, if it is finite. -/
def ifFin (x : Option Nat) : Option Nat × Bool := if finite32 x then (x, true) else (some 0, false)
theorem ifFin_yes {x : Option Nat} (h : finite32 x = true) : ifFin x = (x, true) := by simp [ifFin, h]
theorem ifFin_no {x : Option Nat} (h : finite32 x = false) : ifFin x = (some 0, false) := by simp [ifFin, h]
theorem ifFinite_num (x : Nat) (w : World) : Calls Try.prog 46 #[.float .f32 x] w (NumOk (ifFin (ab .f32 x)) w) := by
  refine (ifFinite_any x w).mono ?_
  rintro e w' ⟨rfl, hb⟩
  cases h : finite32 (ab .f32 x)
  · exact ⟨0, by rw [ifFin_no h]; rfl, by rw [ifFin_no h]; exact ab_z32, hb⟩
  · exact ⟨x, by rw [ifFin_yes h]; rfl, by rw [ifFin_yes h], hb⟩
theorem l02Number_num (x : Nat) (w : World) : Calls Try.prog 44 #[.float .f32 x] w (NumOk (ifFin (ab .f32 x)) w) := by
  refine (l02Number_any x w).mono ?_
  rintro e w' ⟨rfl, hb⟩
  cases h : finite32 (ab .f32 x)
  · exact ⟨0, by rw [ifFin_no h]; rfl, by rw [ifFin_no h]; exact ab_z32, hb⟩
  · exact ⟨x, by rw [ifFin_yes h]; rfl, by rw [ifFin_yes h], hb⟩
end Go.Proofs.Ytdjpbgdhjkbcmaa
