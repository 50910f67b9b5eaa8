/- Units that are the same. -/
import Derived.Test.YtfnhpchgiknmpaaSame3
import Derived.Test.YtfnhpchgiknmpaaUnit3
namespace Go.Proofs.Ytfnhpchgiknmpaa
open Go.RowKit

def sameU (u v : Un) : Bool := sameB (ab .f32 u.t) (ab .f32 v.t) && (u.f == v.f) && sameL u.cs v.cs
def sameUs (us vs : List Un) : Bool := decide (us.length = vs.length) && (us.zip vs).all fun p => sameU p.1 p.2
def WfU (u : Un) : Prop := u.t < 4294967296 ∧ ∀ b ∈ u.cs, b < 4294967296
theorem sameUs_len {us vs : List Un} (h : us.length ≠ vs.length) : sameUs us vs = false := by
  unfold sameUs
  rw [decide_eq_false h]; rfl
theorem sameUs_no {us vs : List Un} (k : Nat) (hx : k < us.length) (hy : k < vs.length) (h : sameU us[k] vs[k] = false) : sameUs us vs = false := by
  unfold sameUs
  have : ((us.zip vs).all fun p => sameU p.1 p.2) = false := by
    rw [List.all_eq_false]
    refine ⟨(us[k], vs[k]), ?_, by simp [h]⟩
    have h1 : (us.zip vs)[k]'(by simp; omega) = (us[k], vs[k]) := by simp
    rw [← h1]
    exact List.getElem_mem _
  rw [this, Bool.and_false]
theorem sameUs_yes {us vs : List Un} (hl : us.length = vs.length) (h : ∀ k (hx : k < us.length) (hy : k < vs.length), sameU us[k] vs[k] = true) : sameUs us vs = true := by
  unfold sameUs
  rw [decide_eq_true hl, Bool.true_and, List.all_eq_true]
  intro p hp
  obtain ⟨k, hk, rfl⟩ := List.getElem_of_mem hp
  simp at hk
  simpa using h k (by omega) (by omega)

set_option maxRecDepth 100000 in
set_option maxHeartbeats 800000 in
theorem sameUnits_pred (u v : Un) (sa sb : Option Addr) (sc sd : Nat) (w : World) (wu : WfU u) (wv : WfU v) (ha : RowAt w (.slice sa u.cs.length sc) (u.cs.map (Value.float .f32))) (hb : RowAt w (.slice sb v.cs.length sd) (v.cs.map (Value.float .f32))) :
    Calls Try.prog 43 #[.agg #[.float .f32 u.t, .bool u.f, .slice sa u.cs.length sc], .agg #[.float .f32 v.t, .bool v.f, .slice sb v.cs.length sd]] w fun e w' => e = .returned (.bool (sameU u v)) ∧ Below w.heap.size w w' := by
  have HV := hid ha; have HU := hid hb; clear ha hb
  cases g1 : sameB (ab .f32 u.t) (ab .f32 v.t)
  · have HM := hid (show sameU u v = false by simp [sameU, g1])
    have G1 := hid g1; clear g1
    go_enter Try.func43, Try.ntmps43
    go_wp2_with (first
      | (go_at_call 44; refine (sameNumber_any u.t v.t wu.1 wv.1 _).mono ?_; rw [G1.out]; rintro e w' ⟨rfl, hb⟩; have hcc := (bcell hb).1; have hB : Below w.heap.size w w' := below_trans (by (repeat (first | (with_reducible assumption) | (with_reducible apply below_refl) | (with_reducible apply below_alloc1) | (with_reducible apply below_drewN1) | (with_reducible apply below_drew1)))) hb; clear hb))
    go_ret
    exact ⟨by rw [HM.out]; rfl, by assumption⟩
  have G1 := hid g1
  cases g2 : (u.f == v.f)
  · have HM := hid (show sameU u v = false by simp [sameU, g2])
    clear g1
    go_enter Try.func43, Try.ntmps43
    go_wp2_with (first
      | (go_at_call 44; refine (sameNumber_any u.t v.t wu.1 wv.1 _).mono ?_; rw [G1.out]; rintro e w' ⟨rfl, hb⟩; have hcc := (bcell hb).1; have hB : Below w.heap.size w w' := below_trans (by (repeat (first | (with_reducible assumption) | (with_reducible apply below_refl) | (with_reducible apply below_alloc1) | (with_reducible apply below_drewN1) | (with_reducible apply below_drew1)))) hb; clear hb))
    go_ret
    exact ⟨by rw [HM.out]; rfl, by assumption⟩
  cases g3 : sameL u.cs v.cs
  all_goals
    have HM := hid (show sameU u v = _ by simp only [sameU, g1, g2, g3]; rfl)
    have G3 := hid g3
    clear g1 g3
    go_enter Try.func43, Try.ntmps43
    go_wp2_with (first
      | (go_at_call 44; refine (sameNumber_any u.t v.t wu.1 wv.1 _).mono ?_; rw [G1.out]; rintro e w' ⟨rfl, hb⟩; have hcc := (bcell hb).1; have hB : Below w.heap.size w w' := below_trans (by (repeat (first | (with_reducible assumption) | (with_reducible apply below_refl) | (with_reducible apply below_alloc1) | (with_reducible apply below_drewN1) | (with_reducible apply below_drew1)))) hb; clear hb)
      | (go_at_call 45; refine (equalFuncF _ _ u.cs v.cs _ (HV.out.below (by (repeat (first | (with_reducible assumption) | (with_reducible apply below_refl) | (with_reducible apply below_alloc1) | (with_reducible apply below_drewN1) | (with_reducible apply below_drew1))))) (HU.out.below (by (repeat (first | (with_reducible assumption) | (with_reducible apply below_refl) | (with_reducible apply below_alloc1) | (with_reducible apply below_drewN1) | (with_reducible apply below_drew1))))) wu.2 wv.2).mono ?_; rw [G3.out]; rintro e w' ⟨rfl, hb⟩; have hB : Below w.heap.size w w' := below_trans (by (repeat (first | (with_reducible assumption) | (with_reducible apply below_refl) | (with_reducible apply below_alloc1) | (with_reducible apply below_drewN1) | (with_reducible apply below_drew1)))) hb; clear hb))
    go_ret
    exact ⟨by rw [HM.out]; rfl, by assumption⟩
end Go.Proofs.Ytfnhpchgiknmpaa
