/- Contracts of slices.IndexFunc and slices.ContainsFunc with any closure that only reads. -/
import Derived.Test.YtkgbbagklkffpaaRows
import Derived.Test.YtkgbbagklkffpaaLib
namespace Go.Proofs.Ytkgbbagklkffpaa
open Go.RowKit

/-- Where the first one is, or -1. -/
def idxOf {α : Type} (p : α → Bool) (bs : List α) : Int := match bs.findIdx? p with | some i => i | none => -1
theorem idxOf_any {α : Type} (p : α → Bool) (bs : List α) : decide (0 ≤ idxOf p bs) = bs.any p := by
  unfold idxOf
  cases h : bs.findIdx? p with
  | none =>
    rw [List.findIdx?_eq_none_iff] at h
    symm
    simpa using h
  | some i =>
    rw [List.findIdx?_eq_some_iff_getElem] at h
    obtain ⟨hi, hp, _⟩ := h
    have : bs.any p = true := by rw [List.any_eq_true]; exact ⟨bs[i], List.getElem_mem hi, hp⟩
    rw [this]
    simp

theorem idxF_pos (p : Nat → Bool) (bs : List (Nat)) (k : Nat) (h : k < bs.length) (hno : ∀ j x, j < k → bs[j]? = some x → p x = false) (hy : p bs[k] = true) : idxOf p bs = k := by
  have : bs.findIdx? p = some k := by
    rw [List.findIdx?_eq_some_iff_getElem]
    exact ⟨h, hy, fun j hj => by rw [hno j _ hj (List.getElem?_eq_getElem (by omega))]; simp⟩
  simp [idxOf, this]
theorem idxF_neg (p : Nat → Bool) (bs : List (Nat)) (hno : ∀ j x, j < bs.length → bs[j]? = some x → p x = false) : idxOf p bs = -1 := by
  have : bs.findIdx? p = none := by
    rw [List.findIdx?_eq_none_iff]
    intro x hx
    obtain ⟨j, hj, rfl⟩ := List.getElem_of_mem hx
    exact hno j _ hj (List.getElem?_eq_getElem hj)
  simp [idxOf, this]

set_option maxHeartbeats 400000 in
theorem indexFuncF (F : FuncId) (caps : Array Value) (p : Nat → Bool) (hE : ∀ args w, (callFunc F args).run Try.prog w = .ok (.enter F args) w) (v : Value) (bs : List (Nat)) (w : World)
    (hF : ∀ x w1, x ∈ bs → Below w.heap.size w w1 → Calls Try.prog F (#[Value.float .f32 x] ++ caps) w1 fun e w' => e = .returned (.bool (p x)) ∧ Below w1.heap.size w1 w')
    (hv : RowAt w v (bs.map (Value.float .f32))) :
    Calls Try.prog 51 #[v, .func (.func F) #[] caps] w fun e w' => e = .returned (.int .i64 (idxOf p bs)) ∧ Below w.heap.size w w' := by
  obtain ⟨ao, cap, b, off, rfl, hao, hl, hm, hc⟩ := hv
  have HF := hid hF; clear hF
  simp only [List.length_map] at hao hl ⊢
  unfold maxLen at hm
  go_enter Try.func51, Try.ntmps51
  go_wp2
  go_loopw [8] (fun i wr => ∃ k : Nat, k ≤ bs.length ∧ i = .int .i64 k ∧ (∀ j x, j < k → bs[j]? = some x → p x = false) ∧ Below w.heap.size w wr) (fun i _ => bs.length - (intOf i).toNat)
  case atStart => exact ⟨0, Nat.zero_le _, rfl, fun j x h => absurd h (Nat.not_lt_zero _), Below.refl _ _⟩
  case round =>
    obtain ⟨k, hk, rfl, hno, hb⟩ := hrel
    by_cases hlt : k < bs.length
    · obtain rfl := hao (by omega)
      have hcell : wr.cell? ⟨b, off + k, none⟩ = some (Value.float .f32 bs[k]) := by
        have h := hc k (Value.float .f32 bs[k]) (by simp [hlt])
        rw [hb.cell (p := ⟨b, off + k, none⟩) (World.block_lt_of_cell? w _ h)]; exact h
      have HN := hid hno; clear hno
      have HC := hid hc; clear hc hao
      have HI := hid (List.getElem_mem hlt)
      cases hp : p bs[k]
      all_goals
        go_wp2_with (refine (HF.out _ _ HI.out (by assumption)).mono ?_; rintro e w' ⟨rfl, hb'⟩)
      · go_roundw
        case rel =>
          refine ⟨k + 1, by omega, by go_num, fun j x hj hx => ?_, below_trans hb hb'⟩
          by_cases hjk : j = k
          · subst hjk
            rw [List.getElem?_eq_getElem hlt] at hx
            cases hx; exact hp
          · exact HN.out j x (by omega) hx
        case measure => simp [intOf]; omega
      · go_ret
        exact ⟨by rw [idxF_pos p bs k hlt HN.out hp]; rfl, below_trans hb hb'⟩
    · go_wp2
      go_ret
      exact ⟨by rw [idxF_neg p bs (fun j x hj hx => hno j x (by omega) hx)]; rfl, hb⟩
set_option maxHeartbeats 400000 in
theorem containsFuncF (F : FuncId) (caps : Array Value) (p : Nat → Bool) (hE : ∀ args w, (callFunc F args).run Try.prog w = .ok (.enter F args) w) (v : Value) (bs : List (Nat)) (w : World)
    (hF : ∀ x w1, x ∈ bs → Below w.heap.size w w1 → Calls Try.prog F (#[Value.float .f32 x] ++ caps) w1 fun e w' => e = .returned (.bool (p x)) ∧ Below w1.heap.size w1 w')
    (hv : RowAt w v (bs.map (Value.float .f32))) :
    Calls Try.prog 44 #[v, .func (.func F) #[] caps] w fun e w' => e = .returned (.bool (bs.any p)) ∧ Below w.heap.size w w' := by
  have H1 := hid (indexFuncF F caps p hE v bs w hF hv); clear hF hv hE
  go_enter Try.func44, Try.ntmps44
  go_wp2_with (go_at_call 51; refine H1.out.mono ?_; rintro e w' ⟨rfl, hb'⟩)
  go_ret
  exact ⟨by rw [← idxOf_any]; rfl, hb'⟩
end Go.Proofs.Ytkgbbagklkffpaa
