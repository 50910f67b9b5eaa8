/- Rows of units: validity. -/
import Derived.Test.YtfnhpchgiknmpaaUnit3
import Derived.Test.YtfnhpchgiknmpaaQuiet
import Derived.Test.YtfnhpchgiknmpaaSeq
namespace Go.Proofs.Ytfnhpchgiknmpaa
open Go.RowKit

def unitB (n : Nat) (u : Un) : Bool := moreB (ab .f32 u.t) && decide (u.cs.length = n) && u.cs.all fun b => finB (ab .f32 b)

set_option maxRecDepth 100000 in
set_option maxHeartbeats 800000 in
theorem areUnits_pred (u : Un) (sa : Option Addr) (sc : Nat) (n c : Nat) (w : World) (hn : n ≤ maxLen) (hv : RowAt w (.slice sa u.cs.length sc) (u.cs.map (Value.float .f32))) (hc : w.cell? ⟨c, 0, none⟩ = some (.int .i64 n)) :
    Calls Try.prog 36 #[.agg #[.float .f32 u.t, .bool u.f, .slice sa u.cs.length sc], .pointer (some ⟨c, 0, none⟩)] w fun e w' => e = .returned (.bool (!unitB n u)) ∧ Below w.heap.size w w' := by
  have HV := hid hv; clear hv
  have hbl := World.block_lt_of_cell? w _ hc
  have HCC := hid hc; clear hc
  unfold maxLen at hn
  have HROW := hid (show RowAt ((w.alloc (.cells #[.float .f32 u.t, .bool u.f, .slice sa u.cs.length sc] 59)).alloc (.cells #[.float .f32 u.t] 44)) (.slice (some ⟨w.heap.size + 1, 0, none⟩) 1 1) ([u.t].map (Value.float .f32)) by
    simpa using rowAt_alloc (w.alloc (.cells #[.float .f32 u.t, .bool u.f, .slice sa u.cs.length sc] 59)) 44 [.float .f32 u.t] (by simp [maxLen]))
  cases g1 : moreB (ab .f32 u.t)
  · have HM := hid (show unitB n u = false by simp [unitB, g1])
    have G1 := hid g1; clear g1
    go_enter Try.func36, Try.ntmps36
    go_wp2_with (first
      | (go_at_call 37; refine (areMore_any _ [u.t] _ HROW.out).mono ?_; rw [show ([u.t].all fun x => moreB (ab .f32 x)) = moreB (ab .f32 u.t) by simp, G1.out]; rintro e w' ⟨rfl, hb⟩; have hcc := (bcell hb).1; have hB : Below w.heap.size w w' := below_trans (by (repeat (first | (with_reducible assumption) | (with_reducible apply below_refl) | (with_reducible apply below_alloc1) | (with_reducible apply below_drewN1) | (with_reducible apply below_drew1)))) hb; have hcov : w'.cell? ⟨c, 0, none⟩ = some (.int .i64 n) := (by rw [hB.cell (p := ⟨c, 0, none⟩) hbl]; exact HCC.out); clear hb))
    go_ret
    exact ⟨by rw [HM.out]; rfl, by assumption⟩
  have G1 := hid g1
  by_cases g2 : u.cs.length = n
  rotate_left
  · have HM := hid (show unitB n u = false by simp [unitB, g1, g2])
    have g2' : ((u.cs.length : Int) != (n : Int)) = true := by simp; omega
    have g2'' : ((u.cs.length : Int) == (n : Int)) = false := by simp; omega
    clear g1 g2
    go_enter Try.func36, Try.ntmps36
    go_wp2_with (first
      | (go_at_call 37; refine (areMore_any _ [u.t] _ HROW.out).mono ?_; rw [show ([u.t].all fun x => moreB (ab .f32 x)) = moreB (ab .f32 u.t) by simp, G1.out]; rintro e w' ⟨rfl, hb⟩; have hcc := (bcell hb).1; have hB : Below w.heap.size w w' := below_trans (by (repeat (first | (with_reducible assumption) | (with_reducible apply below_refl) | (with_reducible apply below_alloc1) | (with_reducible apply below_drewN1) | (with_reducible apply below_drew1)))) hb; have hcov : w'.cell? ⟨c, 0, none⟩ = some (.int .i64 n) := (by rw [hB.cell (p := ⟨c, 0, none⟩) hbl]; exact HCC.out); clear hb))
    go_ret
    exact ⟨by rw [HM.out]; rfl, by assumption⟩
  have g2' : ((u.cs.length : Int) != (n : Int)) = false := by simp; omega
  have g2'' : ((u.cs.length : Int) == (n : Int)) = true := by simp; omega
  cases g3 : u.cs.all fun b => finB (ab .f32 b)
  all_goals
    have HM := hid (show unitB n u = _ by simp only [unitB, g1, g2, g3]; rfl)
    have G3 := hid g3
    clear g1 g2 g3
    go_enter Try.func36, Try.ntmps36
    go_wp2_with (first
      | (go_at_call 37; refine (areMore_any _ [u.t] _ HROW.out).mono ?_; rw [show ([u.t].all fun x => moreB (ab .f32 x)) = moreB (ab .f32 u.t) by simp, G1.out]; rintro e w' ⟨rfl, hb⟩; have hcc := (bcell hb).1; have hB : Below w.heap.size w w' := below_trans (by (repeat (first | (with_reducible assumption) | (with_reducible apply below_refl) | (with_reducible apply below_alloc1) | (with_reducible apply below_drewN1) | (with_reducible apply below_drew1)))) hb; have hcov : w'.cell? ⟨c, 0, none⟩ = some (.int .i64 n) := (by rw [hB.cell (p := ⟨c, 0, none⟩) hbl]; exact HCC.out); clear hb)
      | (go_at_call 38; (with_reducible refine (areFinite_any _ u.cs _ (HV.out.below (by (repeat (first | (with_reducible assumption) | (with_reducible apply below_refl) | (with_reducible apply below_alloc1) | (with_reducible apply below_drewN1) | (with_reducible apply below_drew1)))))).mono ?_); rw [G3.out]; rintro e w' ⟨rfl, hb⟩; have hB : Below w.heap.size w w' := below_trans (by (repeat (first | (with_reducible assumption) | (with_reducible apply below_refl) | (with_reducible apply below_alloc1) | (with_reducible apply below_drewN1) | (with_reducible apply below_drew1)))) hb; have hC := (bcell hB).1; clear hb))
    go_ret
    exact ⟨by rw [HM.out]; rfl, by assumption⟩
theorem idxU_pos (p : Un → Bool) (bs : List Un) (k : Nat) (h : k < bs.length) (hno : ∀ j x, j < k → bs[j]? = some x → p x = false) (hy : p bs[k] = true) : idxOf p bs = k := by
  have : bs.findIdx? p = some k := by
    rw [List.findIdx?_eq_some_iff_getElem]
    exact ⟨h, hy, fun j hj => by rw [hno j _ hj (List.getElem?_eq_getElem (by omega))]; simp⟩
  simp [idxOf, this]
theorem idxU_neg (p : Un → Bool) (bs : List Un) (hno : ∀ j x, j < bs.length → bs[j]? = some x → p x = false) : idxOf p bs = -1 := by
  have : bs.findIdx? p = none := by
    rw [List.findIdx?_eq_none_iff]
    intro x hx
    obtain ⟨j, hj, rfl⟩ := List.getElem_of_mem hx
    exact hno j _ hj (List.getElem?_eq_getElem hj)
  simp [idxOf, this]
set_option maxRecDepth 100000 in
set_option maxHeartbeats 800000 in
theorem indexFuncU (F : FuncId) (caps : Array Value) (p : Un → Bool) (hE : ∀ args w, (callFunc F args).run Try.prog w = .ok (.enter F args) w) (v : Value) (us : List Un) (w : World)
    (hF : ∀ (x : Un) (sa : Option Addr) (sc : Nat) (w1 : World), RowAt w (.slice sa x.cs.length sc) (x.cs.map (Value.float .f32)) → Below w.heap.size w w1 → Calls Try.prog F (#[Value.agg #[.float .f32 x.t, .bool x.f, .slice sa x.cs.length sc]] ++ caps) w1 fun e w' => e = .returned (.bool (p x)) ∧ Below w1.heap.size w1 w')
    (hv : UnitsAt w v us) :
    Calls Try.prog 67 #[v, .func (.func F) #[] caps] w fun e w' => e = .returned (.int .i64 (idxOf p us)) ∧ Below w.heap.size w w' := by
  obtain ⟨ao, cap, b, off, rfl, hao, hl, hm, hc⟩ := hv
  have HF := hid hF; clear hF
  unfold maxLen at hm
  have HA := hid hao; have HC := hid hc
  clear hao hc
  go_enter Try.func67, Try.ntmps67
  go_wp2
  go_loopw [8] (fun i wr => ∃ k : Nat, k ≤ us.length ∧ i = .int .i64 k ∧ Hid (∀ j x, j < k → us[j]? = some x → p x = false) ∧ Below w.heap.size w wr) (fun i _ => us.length - (intOf i).toNat)
  case atStart => exact ⟨0, Nat.zero_le _, rfl, hid fun j x h => absurd h (Nat.not_lt_zero _), Below.refl _ _⟩
  case round =>
    obtain ⟨k, hk, rfl, HN, hb⟩ := hrel
    by_cases hlt : k < us.length
    · obtain rfl := HA.out (by omega)
      obtain ⟨sa, sc, c0, c1, c2, hrow⟩ := HC.out k hlt
      have hbl0 : b < w.heap.size := World.block_lt_of_cell? w _ c0
      have c0' : wr.cell? ⟨b, off + k * 3, none⟩ = some (.float .f32 us[k].t) := by rw [hb.cell (p := ⟨b, _, none⟩) hbl0]; exact c0
      have c1' : wr.cell? ⟨b, off + k * 3 + 1, none⟩ = some (.bool us[k].f) := by rw [hb.cell (p := ⟨b, _, none⟩) hbl0]; exact c1
      have c2' : wr.cell? ⟨b, off + k * 3 + 2, none⟩ = some (.slice sa us[k].cs.length sc) := by rw [hb.cell (p := ⟨b, _, none⟩) hbl0]; exact c2
      have HR := hid hrow
      have hgt := List.getElem?_eq_getElem hlt
      have hp1 : p us[k] = true → idxOf p us = k := fun h => idxU_pos p us k hlt HN.out h
      generalize us[k] = u at c0' c1' c2' HR hgt hp1
      have HG := hid hgt; have HP := hid hp1
      clear hrow c0 c1 c2 hgt hp1
      have hk0 : (0 : Int) ≤ (k : Int) := by omega
      have hltI : (k : Int) < (us.length : Int) := by omega
      cases hp : p u
      all_goals
        go_wp2_with (refine (HF.out _ _ _ _ HR.out (by assumption)).mono ?_; rintro e w' ⟨rfl, hb'⟩)
      · go_roundw
        case rel =>
          refine ⟨k + 1, by omega, by go_num, hid fun j x hj hx => ?_, below_trans hb hb'⟩
          by_cases hjk : j = k
          · subst hjk
            rw [HG.out] at hx
            cases hx; exact hp
          · exact HN.out j x (by omega) hx
        case measure => simp [intOf]; omega
      · go_ret
        exact ⟨by rw [HP.out hp]; rfl, below_trans hb hb'⟩
    · go_wp2
      go_ret
      exact ⟨by rw [idxU_neg p us (fun j x hj hx => HN.out j x (by omega) hx)]; rfl, hb⟩
set_option maxHeartbeats 400000 in
theorem containsFuncU (F : FuncId) (caps : Array Value) (p : Un → Bool) (hE : ∀ args w, (callFunc F args).run Try.prog w = .ok (.enter F args) w) (v : Value) (us : List Un) (w : World)
    (hF : ∀ (x : Un) (sa : Option Addr) (sc : Nat) (w1 : World), RowAt w (.slice sa x.cs.length sc) (x.cs.map (Value.float .f32)) → Below w.heap.size w w1 → Calls Try.prog F (#[Value.agg #[.float .f32 x.t, .bool x.f, .slice sa x.cs.length sc]] ++ caps) w1 fun e w' => e = .returned (.bool (p x)) ∧ Below w1.heap.size w1 w')
    (hv : UnitsAt w v us) :
    Calls Try.prog 35 #[v, .func (.func F) #[] caps] w fun e w' => e = .returned (.bool (us.any p)) ∧ Below w.heap.size w w' := by
  have H1 := hid (indexFuncU F caps p hE v us w hF hv); clear hF hv hE
  go_enter Try.func35, Try.ntmps35
  go_wp2_with (go_at_call 67; refine H1.out.mono ?_; rintro e w' ⟨rfl, hb'⟩)
  go_ret
  exact ⟨by rw [← idxOf_any]; rfl, hb'⟩
end Go.Proofs.Ytfnhpchgiknmpaa
