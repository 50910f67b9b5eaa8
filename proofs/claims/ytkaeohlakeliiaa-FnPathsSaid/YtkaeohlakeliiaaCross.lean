/- Contracts: PathCross. -/
import Derived.Test.YtkaeohlakeliiaaPath
import Derived.Test.YtkaeohlakeliiaaFres
namespace Go.Proofs.Ytkaeohlakeliiaa
open Go.RowKit

def reachB (L : Option Nat) (y : Nat) : Bool := ford .f32 (ab .f32 y) L == some .gt || ford .f32 (ab .f32 y) L == some .eq
theorem idx_cases {α : Type} (p : α → Bool) (bs : List α) : idxOf p bs = -1 ∨ ∃ k : Nat, k < bs.length ∧ idxOf p bs = k := by
  unfold idxOf
  cases h : bs.findIdx? p with
  | none => left; rfl
  | some k =>
    right
    rw [List.findIdx?_eq_some_iff_getElem] at h
    exact ⟨k, h.1, rfl⟩
def crossX (xs ys : List Nat) (L : Option Nat) (k : Nat) : Option Nat :=
  fop .add .f32 (ab .f32 (xs.getD k 0)) (fop .mul .f32 (fop .quo .f32 (fop .sub .f32 L (ab .f32 (ys.getD k 0))) (fop .sub .f32 (ab .f32 (ys.getD (k + 1) 0)) (ab .f32 (ys.getD k 0)))) (fop .sub .f32 (ab .f32 (xs.getD (k + 1) 0)) (ab .f32 (xs.getD k 0))))
def crossOk (xs ys : List Nat) (L : Option Nat) : Bool := pathB xs ys && riseB xs && finite32 L
def crossM (xs ys : List Nat) (L : Option Nat) : Option Nat × Bool :=
  if crossOk xs ys L then
    (if idxOf (reachB L) ys = -1 then (some 0, false) else if idxOf (reachB L) ys = 0 then (ab .f32 (xs.getD 0 0), true) else ifFin (crossX xs ys L (idxOf (reachB L) ys - 1).toNat))
  else (some 0, false)
theorem cross_no {xs ys : List Nat} {L : Option Nat} (h : crossOk xs ys L = false) : crossM xs ys L = (some 0, false) := by simp [crossM, h]
theorem cross_none {xs ys : List Nat} {L : Option Nat} (h : idxOf (reachB L) ys = -1) : crossM xs ys L = (some 0, false) := by simp [crossM, h]
theorem cross_zero {xs ys : List Nat} {L : Option Nat} (h : crossOk xs ys L = true) (k : idxOf (reachB L) ys = 0) : crossM xs ys L = (ab .f32 (xs.getD 0 0), true) := by simp [crossM, h, k]
theorem cross_at {xs ys : List Nat} {L : Option Nat} (h : crossOk xs ys L = true) (k : Nat) (e : idxOf (reachB L) ys = (k + 1 : Nat)) : crossM xs ys L = ifFin (crossX xs ys L k) := by
  have h1 : ¬ ((k + 1 : Nat) : Int) = -1 := by omega
  have h2 : ¬ ((k + 1 : Nat) : Int) = 0 := by omega
  simp only [crossM, h, e, if_true, if_neg h1, if_neg h2]
  congr 2
  omega
set_option maxHeartbeats 400000 in
theorem reach_pred (x l b : Nat) (w : World) (h1 : w.cell? ⟨b, 0, none⟩ = some (.float .f32 l)) :
    Calls Try.prog 83 #[.float .f32 x, .pointer (some ⟨b, 0, none⟩)] w fun e w' => e = .returned (.bool (reachB (ab .f32 l) x)) ∧ Below w.heap.size w w' := by
  go_enter Try.func83, Try.ntmps83
  go_wp2_with fail
  go_ret
  exact ⟨rfl, by (repeat (first | (with_reducible assumption) | (with_reducible apply below_refl) | (with_reducible apply below_alloc1) | (with_reducible apply below_drewN1) | (with_reducible apply below_drew1)))⟩

set_option maxRecDepth 100000 in
set_option maxHeartbeats 2000000 in
theorem implCross_any (v u : Value) (xs ys : List Nat) (l : Nat) (w : World) (hv : RowAt w v (xs.map (Value.float .f32))) (hu : RowAt w u (ys.map (Value.float .f32))) :
    Calls Try.prog 22 #[v, u, .float .f32 l] w (NumOk (crossM xs ys (ab .f32 l)) w) := by
  have HV := hid hv
  have HU := hid hu
  obtain ⟨ao, cap, b, off, rfl, hao, hl, hm, hc⟩ := hv
  obtain ⟨ao', cap', b', off', rfl, hao', hl', hm', hc'⟩ := hu
  simp only [List.length_map] at hl HV hl' HU hao hao' ⊢
  unfold maxLen at hm hm'
  have HC := hid hc; have HA := hid hao; have HC' := hid hc'; have HA' := hid hao'
  clear hc hao hc' hao'
  cases g1 : pathB xs ys
  · have HM := hid (cross_no (xs := xs) (ys := ys) (L := ab .f32 l) (by simp [crossOk, g1]))
    have G1 := hid g1; clear g1
    go_enter Try.func22, Try.ntmps22
    go_wp2_with fail
    obtain ⟨w1, hw1⟩ : ∃ w1 : World, w1 = (w.alloc (Obj.cells #[.float .f32 l] 27)) := ⟨_, rfl⟩
    have c0 : w1.cell? ⟨w.heap.size, 0, none⟩ = some (.float .f32 l) := by subst hw1; go_simp
    have hb1 : Below w.heap.size w w1 := by subst hw1; exact below_alloc _ _
    have s0 : w.heap.size < w1.heap.size := by subst hw1; simp
    rw [← hw1]
    clear hw1
    go_wp2_with (first | (go_at_call 77; refine (arePaths_any _ _ xs ys _ (HV.out.below (below_trans hb1 (by (repeat (first | (with_reducible assumption) | (with_reducible apply below_refl) | (with_reducible apply below_alloc1) | (with_reducible apply below_drewN1) | (with_reducible apply below_drew1)))))) (HU.out.below (below_trans hb1 (by (repeat (first | (with_reducible assumption) | (with_reducible apply below_refl) | (with_reducible apply below_alloc1) | (with_reducible apply below_drewN1) | (with_reducible apply below_drew1))))))).mono ?_; rw [G1.out]; rintro e w' ⟨rfl, hb⟩; have hB : Below w1.heap.size w1 w' := below_trans (by (repeat (first | (with_reducible assumption) | (with_reducible apply below_refl) | (with_reducible apply below_alloc1) | (with_reducible apply below_drewN1) | (with_reducible apply below_drew1)))) hb; have hC := (bcell hB).1; clear hb))
    go_ret2
    exact numOk_no HM.out (below_trans hb1 (by assumption))
  have G1 := hid g1
  cases g2 : riseB xs
  · have HM := hid (cross_no (xs := xs) (ys := ys) (L := ab .f32 l) (by simp [crossOk, g2]))
    have G2 := hid g2; clear g2
    go_enter Try.func22, Try.ntmps22
    go_wp2_with fail
    obtain ⟨w1, hw1⟩ : ∃ w1 : World, w1 = (w.alloc (Obj.cells #[.float .f32 l] 27)) := ⟨_, rfl⟩
    have c0 : w1.cell? ⟨w.heap.size, 0, none⟩ = some (.float .f32 l) := by subst hw1; go_simp
    have hb1 : Below w.heap.size w w1 := by subst hw1; exact below_alloc _ _
    have s0 : w.heap.size < w1.heap.size := by subst hw1; simp
    rw [← hw1]
    clear hw1
    go_wp2_with (first | (go_at_call 77; refine (arePaths_any _ _ xs ys _ (HV.out.below (below_trans hb1 (by (repeat (first | (with_reducible assumption) | (with_reducible apply below_refl) | (with_reducible apply below_alloc1) | (with_reducible apply below_drewN1) | (with_reducible apply below_drew1)))))) (HU.out.below (below_trans hb1 (by (repeat (first | (with_reducible assumption) | (with_reducible apply below_refl) | (with_reducible apply below_alloc1) | (with_reducible apply below_drewN1) | (with_reducible apply below_drew1))))))).mono ?_; rw [G1.out]; rintro e w' ⟨rfl, hb⟩; have hB : Below w1.heap.size w1 w' := below_trans (by (repeat (first | (with_reducible assumption) | (with_reducible apply below_refl) | (with_reducible apply below_alloc1) | (with_reducible apply below_drewN1) | (with_reducible apply below_drew1)))) hb; have hC := (bcell hB).1; clear hb) | (go_at_call 80; refine (isRising_any _ xs _ (HV.out.below (below_trans hb1 (by (repeat (first | (with_reducible assumption) | (with_reducible apply below_refl) | (with_reducible apply below_alloc1) | (with_reducible apply below_drewN1) | (with_reducible apply below_drew1))))))).mono ?_; rw [G2.out]; rintro e w' ⟨rfl, hb⟩; have hB : Below w1.heap.size w1 w' := below_trans (by (repeat (first | (with_reducible assumption) | (with_reducible apply below_refl) | (with_reducible apply below_alloc1) | (with_reducible apply below_drewN1) | (with_reducible apply below_drew1)))) hb; have hC := (bcell hB).1; clear hb))
    go_ret2
    exact numOk_no HM.out (below_trans hb1 (by assumption))
  have G2 := hid g2
  cases g3 : finite32 (ab .f32 l)
  · have HM := hid (cross_no (xs := xs) (ys := ys) (L := ab .f32 l) (by simp [crossOk, g3]))
    have G3 := hid g3; clear g3
    go_enter Try.func22, Try.ntmps22
    go_wp2_with fail
    obtain ⟨w1, hw1⟩ : ∃ w1 : World, w1 = (w.alloc (Obj.cells #[.float .f32 l] 27)) := ⟨_, rfl⟩
    have c0 : w1.cell? ⟨w.heap.size, 0, none⟩ = some (.float .f32 l) := by subst hw1; go_simp
    have hb1 : Below w.heap.size w w1 := by subst hw1; exact below_alloc _ _
    have s0 : w.heap.size < w1.heap.size := by subst hw1; simp
    rw [← hw1]
    clear hw1
    go_wp2_with (first | (go_at_call 77; refine (arePaths_any _ _ xs ys _ (HV.out.below (below_trans hb1 (by (repeat (first | (with_reducible assumption) | (with_reducible apply below_refl) | (with_reducible apply below_alloc1) | (with_reducible apply below_drewN1) | (with_reducible apply below_drew1)))))) (HU.out.below (below_trans hb1 (by (repeat (first | (with_reducible assumption) | (with_reducible apply below_refl) | (with_reducible apply below_alloc1) | (with_reducible apply below_drewN1) | (with_reducible apply below_drew1))))))).mono ?_; rw [G1.out]; rintro e w' ⟨rfl, hb⟩; have hB : Below w1.heap.size w1 w' := below_trans (by (repeat (first | (with_reducible assumption) | (with_reducible apply below_refl) | (with_reducible apply below_alloc1) | (with_reducible apply below_drewN1) | (with_reducible apply below_drew1)))) hb; have hC := (bcell hB).1; clear hb) | (go_at_call 80; refine (isRising_any _ xs _ (HV.out.below (below_trans hb1 (by (repeat (first | (with_reducible assumption) | (with_reducible apply below_refl) | (with_reducible apply below_alloc1) | (with_reducible apply below_drewN1) | (with_reducible apply below_drew1))))))).mono ?_; rw [G2.out]; rintro e w' ⟨rfl, hb⟩; have hB : Below w1.heap.size w1 w' := below_trans (by (repeat (first | (with_reducible assumption) | (with_reducible apply below_refl) | (with_reducible apply below_alloc1) | (with_reducible apply below_drewN1) | (with_reducible apply below_drew1)))) hb; have hC := (bcell hB).1; clear hb) | (go_at_call 81; refine (implFinite_any _ _).mono ?_; rw [G3.out]; rintro e w' ⟨rfl, hb⟩; have hB : Below w1.heap.size w1 w' := below_trans (by (repeat (first | (with_reducible assumption) | (with_reducible apply below_refl) | (with_reducible apply below_alloc1) | (with_reducible apply below_drewN1) | (with_reducible apply below_drew1)))) hb; have hC := (bcell hB).1; clear hb))
    go_ret2
    exact numOk_no HM.out (below_trans hb1 (by assumption))
  have G3 := hid g3
  have HOK := hid (show crossOk xs ys (ab .f32 l) = true by simp [crossOk, g1, g2, g3])
  obtain ⟨l1, l2, l3, _, _⟩ := pathB_true g1
  have HL3 := hid l3
  clear g1 g2 g3 l3
  go_enter Try.func22, Try.ntmps22
  go_wp2_with fail
  obtain ⟨w1, hw1⟩ : ∃ w1 : World, w1 = (w.alloc (Obj.cells #[.float .f32 l] 27)) := ⟨_, rfl⟩
  have c0 : w1.cell? ⟨w.heap.size, 0, none⟩ = some (.float .f32 l) := by subst hw1; go_simp
  have hb1 : Below w.heap.size w w1 := by subst hw1; exact below_alloc _ _
  have s0 : w.heap.size < w1.heap.size := by subst hw1; simp
  rw [← hw1]
  clear hw1
  have HCL := hid (show ∀ w2, Below w1.heap.size w1 w2 → w2.cell? ⟨w.heap.size, 0, none⟩ = some (.float .f32 l) from fun w2 h => by rw [h.cell (p := ⟨w.heap.size, 0, none⟩) s0]; exact c0)
  rcases idx_cases (reachB (ab .f32 l)) ys with hi | ⟨k, hk, hi⟩
  · have HM := hid (cross_none (xs := xs) hi)
    have HI := hid hi; clear hi
    go_wp2_with (first
      | (go_at_call 77; refine (arePaths_any _ _ xs ys _ (HV.out.below (below_trans hb1 (by (repeat (first | (with_reducible assumption) | (with_reducible apply below_refl) | (with_reducible apply below_alloc1) | (with_reducible apply below_drewN1) | (with_reducible apply below_drew1)))))) (HU.out.below (below_trans hb1 (by (repeat (first | (with_reducible assumption) | (with_reducible apply below_refl) | (with_reducible apply below_alloc1) | (with_reducible apply below_drewN1) | (with_reducible apply below_drew1))))))).mono ?_; rw [G1.out]; rintro e w' ⟨rfl, hb⟩; have hB : Below w1.heap.size w1 w' := below_trans (by (repeat (first | (with_reducible assumption) | (with_reducible apply below_refl) | (with_reducible apply below_alloc1) | (with_reducible apply below_drewN1) | (with_reducible apply below_drew1)))) hb; have hC := (bcell hB).1; clear hb) | (go_at_call 80; refine (isRising_any _ xs _ (HV.out.below (below_trans hb1 (by (repeat (first | (with_reducible assumption) | (with_reducible apply below_refl) | (with_reducible apply below_alloc1) | (with_reducible apply below_drewN1) | (with_reducible apply below_drew1))))))).mono ?_; rw [G2.out]; rintro e w' ⟨rfl, hb⟩; have hB : Below w1.heap.size w1 w' := below_trans (by (repeat (first | (with_reducible assumption) | (with_reducible apply below_refl) | (with_reducible apply below_alloc1) | (with_reducible apply below_drewN1) | (with_reducible apply below_drew1)))) hb; have hC := (bcell hB).1; clear hb) | (go_at_call 81; refine (implFinite_any _ _).mono ?_; rw [G3.out]; rintro e w' ⟨rfl, hb⟩; have hB : Below w1.heap.size w1 w' := below_trans (by (repeat (first | (with_reducible assumption) | (with_reducible apply below_refl) | (with_reducible apply below_alloc1) | (with_reducible apply below_drewN1) | (with_reducible apply below_drew1)))) hb; have hC := (bcell hB).1; clear hb)
      | (go_at_call 82; refine (indexFuncF 83 #[.pointer (some ⟨w.heap.size, 0, none⟩)] (reachB (ab .f32 l)) (fun _ _ => by kernel_rfl) _ ys _ (fun x w2 _ hb2 => reach_pred x l _ w2 (HCL.out w2 (below_trans (by (repeat (first | (with_reducible assumption) | (with_reducible apply below_refl) | (with_reducible apply below_alloc1) | (with_reducible apply below_drewN1) | (with_reducible apply below_drew1)))) hb2))) (HU.out.below (below_trans hb1 (by (repeat (first | (with_reducible assumption) | (with_reducible apply below_refl) | (with_reducible apply below_alloc1) | (with_reducible apply below_drewN1) | (with_reducible apply below_drew1))))))).mono ?_; rw [HI.out]; rintro e w' ⟨rfl, hb⟩; have hB : Below w1.heap.size w1 w' := below_trans (by (repeat (first | (with_reducible assumption) | (with_reducible apply below_refl) | (with_reducible apply below_alloc1) | (with_reducible apply below_drewN1) | (with_reducible apply below_drew1)))) hb; have hC := (bcell hB).1; clear hb))
    go_ret2
    exact numOk_no HM.out (below_trans hb1 (by assumption))
  · cases k with
    | zero =>
      have HM := hid (cross_zero HOK.out hi)
      have HI := hid hi; clear hi
      have l3 := HL3.out
      obtain rfl := HA.out (by omega)
      have hx0 := rowc HC.out (below_refl w) 0 (by omega)
      rw [Nat.add_zero] at hx0
      have hg := getD_at xs 0 (by omega)
      have hbl : b < w.heap.size := World.block_lt_of_cell? w _ hx0
      have hbl2 : b < w1.heap.size := Nat.lt_trans hbl s0
      generalize xs[0] = x0 at hx0 hg
      have HG := hid hg; clear hg
      have hq : 0 < xs.length := by omega
      have hC0 := (bcell hb1).1
      clear l3
      go_wp2_with (first
        | (go_at_call 77; refine (arePaths_any _ _ xs ys _ (HV.out.below (below_trans hb1 (by (repeat (first | (with_reducible assumption) | (with_reducible apply below_refl) | (with_reducible apply below_alloc1) | (with_reducible apply below_drewN1) | (with_reducible apply below_drew1)))))) (HU.out.below (below_trans hb1 (by (repeat (first | (with_reducible assumption) | (with_reducible apply below_refl) | (with_reducible apply below_alloc1) | (with_reducible apply below_drewN1) | (with_reducible apply below_drew1))))))).mono ?_; rw [G1.out]; rintro e w' ⟨rfl, hb⟩; have hB : Below w1.heap.size w1 w' := below_trans (by (repeat (first | (with_reducible assumption) | (with_reducible apply below_refl) | (with_reducible apply below_alloc1) | (with_reducible apply below_drewN1) | (with_reducible apply below_drew1)))) hb; have hC := (bcell hB).1; clear hb) | (go_at_call 80; refine (isRising_any _ xs _ (HV.out.below (below_trans hb1 (by (repeat (first | (with_reducible assumption) | (with_reducible apply below_refl) | (with_reducible apply below_alloc1) | (with_reducible apply below_drewN1) | (with_reducible apply below_drew1))))))).mono ?_; rw [G2.out]; rintro e w' ⟨rfl, hb⟩; have hB : Below w1.heap.size w1 w' := below_trans (by (repeat (first | (with_reducible assumption) | (with_reducible apply below_refl) | (with_reducible apply below_alloc1) | (with_reducible apply below_drewN1) | (with_reducible apply below_drew1)))) hb; have hC := (bcell hB).1; clear hb) | (go_at_call 81; refine (implFinite_any _ _).mono ?_; rw [G3.out]; rintro e w' ⟨rfl, hb⟩; have hB : Below w1.heap.size w1 w' := below_trans (by (repeat (first | (with_reducible assumption) | (with_reducible apply below_refl) | (with_reducible apply below_alloc1) | (with_reducible apply below_drewN1) | (with_reducible apply below_drew1)))) hb; have hC := (bcell hB).1; clear hb)
        | (go_at_call 82; refine (indexFuncF 83 #[.pointer (some ⟨w.heap.size, 0, none⟩)] (reachB (ab .f32 l)) (fun _ _ => by kernel_rfl) _ ys _ (fun x w2 _ hb2 => reach_pred x l _ w2 (HCL.out w2 (below_trans (by (repeat (first | (with_reducible assumption) | (with_reducible apply below_refl) | (with_reducible apply below_alloc1) | (with_reducible apply below_drewN1) | (with_reducible apply below_drew1)))) hb2))) (HU.out.below (below_trans hb1 (by (repeat (first | (with_reducible assumption) | (with_reducible apply below_refl) | (with_reducible apply below_alloc1) | (with_reducible apply below_drewN1) | (with_reducible apply below_drew1))))))).mono ?_; rw [HI.out]; rintro e w' ⟨rfl, hb⟩; have hB : Below w1.heap.size w1 w' := below_trans (by (repeat (first | (with_reducible assumption) | (with_reducible apply below_refl) | (with_reducible apply below_alloc1) | (with_reducible apply below_drewN1) | (with_reducible apply below_drew1)))) hb; have hC := (bcell hB).1; clear hb)
        | go_quiet (fail))
      go_ret2
      exact ⟨x0, by rw [HM.out]; rfl, by rw [HM.out, HG.out], below_trans hb1 (by (repeat (first | (with_reducible assumption) | (with_reducible apply below_refl) | (with_reducible apply below_alloc1) | (with_reducible apply below_drewN1) | (with_reducible apply below_drew1))))⟩
    | succ k =>
      have HM := hid (cross_at HOK.out k hi)
      have hcast : ((k + 1 : Nat) : Int) = (k : Int) + 1 := by omega
      rw [hcast] at hi
      have HI := hid hi; clear hi
      clear hcast
      have l3 := HL3.out
      obtain rfl := HA.out (by omega)
      obtain rfl := HA'.out (by omega)
      have y0 := rowc HC'.out (below_refl w) k (by omega)
      have y1 := rowc HC'.out (below_refl w) (k + 1) hk
      have x0 := rowc HC.out (below_refl w) k (by omega)
      have x1 := rowc HC.out (below_refl w) (k + 1) (by omega)
      have hX : crossX xs ys (ab .f32 l) k = fop .add .f32 (ab .f32 (xs[k]'(by omega))) (fop .mul .f32 (fop .quo .f32 (fop .sub .f32 (ab .f32 l) (ab .f32 (ys[k]'(by omega)))) (fop .sub .f32 (ab .f32 (ys[k + 1]'hk)) (ab .f32 (ys[k]'(by omega))))) (fop .sub .f32 (ab .f32 (xs[k + 1]'(by omega))) (ab .f32 (xs[k]'(by omega))))) := by
        unfold crossX
        rw [getD_at xs k (by omega), getD_at xs (k + 1) (by omega), getD_at ys k (by omega), getD_at ys (k + 1) hk]
      have hbl : b < w.heap.size := World.block_lt_of_cell? w _ x0
      have hbl' : b' < w.heap.size := World.block_lt_of_cell? w _ y0
      have hbl2 : b < w1.heap.size := Nat.lt_trans hbl s0
      have hbl2' : b' < w1.heap.size := Nat.lt_trans hbl' s0
      generalize xs[k]'(by omega) = xa at x0 hX
      generalize xs[k + 1]'(by omega) = xb at x1 hX
      generalize ys[k]'(by omega) = ya at y0 hX
      generalize ys[k + 1]'hk = yb at y1 hX
      have HX := hid hX; clear hX
      have hC0 := (bcell hb1).1
      have q0 : (0 : Int) ≤ (k : Int) := by omega
      have q1 : (0 : Int) ≤ (k : Int) + 1 := by omega
      have q2 : (k : Int) < (xs.length : Int) := by omega
      have q3 : (k : Int) + 1 < (xs.length : Int) := by omega
      have q4 : (k : Int) < (ys.length : Int) := by omega
      have q5 : (k : Int) + 1 < (ys.length : Int) := by omega
      have i1 : ((k : Int) + 1).toNat = k + 1 := by omega
      have W1 : IntKind.i64.wrap ((k : Int) + 1 - 1) = (k : Int) := by rw [IntKind.wrap_i64]; omega
      have W2 : IntKind.i64.wrap (k : Int) = (k : Int) := by rw [IntKind.wrap_i64]; omega
      have W3 : (k : Int) + 1 - 1 = (k : Int) := by omega
      clear l3
      obtain ⟨fe1, fe2, fe3, fe4⟩ := run_fres4 Try.prog
      obtain ⟨fa1, fa2, fa3, fa4⟩ := ab_fres4
      go_wp2_with (first
        | (go_at_call 77; refine (arePaths_any _ _ xs ys _ (HV.out.below (below_trans hb1 (by (repeat (first | (with_reducible assumption) | (with_reducible apply below_refl) | (with_reducible apply below_alloc1) | (with_reducible apply below_drewN1) | (with_reducible apply below_drew1)))))) (HU.out.below (below_trans hb1 (by (repeat (first | (with_reducible assumption) | (with_reducible apply below_refl) | (with_reducible apply below_alloc1) | (with_reducible apply below_drewN1) | (with_reducible apply below_drew1))))))).mono ?_; rw [G1.out]; rintro e w' ⟨rfl, hb⟩; have hB : Below w1.heap.size w1 w' := below_trans (by (repeat (first | (with_reducible assumption) | (with_reducible apply below_refl) | (with_reducible apply below_alloc1) | (with_reducible apply below_drewN1) | (with_reducible apply below_drew1)))) hb; have hC := (bcell hB).1; clear hb) | (go_at_call 80; refine (isRising_any _ xs _ (HV.out.below (below_trans hb1 (by (repeat (first | (with_reducible assumption) | (with_reducible apply below_refl) | (with_reducible apply below_alloc1) | (with_reducible apply below_drewN1) | (with_reducible apply below_drew1))))))).mono ?_; rw [G2.out]; rintro e w' ⟨rfl, hb⟩; have hB : Below w1.heap.size w1 w' := below_trans (by (repeat (first | (with_reducible assumption) | (with_reducible apply below_refl) | (with_reducible apply below_alloc1) | (with_reducible apply below_drewN1) | (with_reducible apply below_drew1)))) hb; have hC := (bcell hB).1; clear hb) | (go_at_call 81; refine (implFinite_any _ _).mono ?_; rw [G3.out]; rintro e w' ⟨rfl, hb⟩; have hB : Below w1.heap.size w1 w' := below_trans (by (repeat (first | (with_reducible assumption) | (with_reducible apply below_refl) | (with_reducible apply below_alloc1) | (with_reducible apply below_drewN1) | (with_reducible apply below_drew1)))) hb; have hC := (bcell hB).1; clear hb)
        | (go_at_call 82; refine (indexFuncF 83 #[.pointer (some ⟨w.heap.size, 0, none⟩)] (reachB (ab .f32 l)) (fun _ _ => by kernel_rfl) _ ys _ (fun x w2 _ hb2 => reach_pred x l _ w2 (HCL.out w2 (below_trans (by (repeat (first | (with_reducible assumption) | (with_reducible apply below_refl) | (with_reducible apply below_alloc1) | (with_reducible apply below_drewN1) | (with_reducible apply below_drew1)))) hb2))) (HU.out.below (below_trans hb1 (by (repeat (first | (with_reducible assumption) | (with_reducible apply below_refl) | (with_reducible apply below_alloc1) | (with_reducible apply below_drewN1) | (with_reducible apply below_drew1))))))).mono ?_; rw [HI.out]; rintro e w' ⟨rfl, hb⟩; have hB : Below w1.heap.size w1 w' := below_trans (by (repeat (first | (with_reducible assumption) | (with_reducible apply below_refl) | (with_reducible apply below_alloc1) | (with_reducible apply below_drewN1) | (with_reducible apply below_drew1)))) hb; have hC := (bcell hB).1; clear hb)
        | (go_region_held (fun w' => Below w1.heap.size w1 w' ∧ ∀ b o, b < w1.heap.size → w'.cell? ⟨b, o, none⟩ = w1.cell? ⟨b, o, none⟩) (first | exact keep_next ‹_› ‹_› | exact keep_start | exact keep_drew ‹_› | exact keep_of (by (repeat (first | (with_reducible assumption) | (with_reducible apply below_refl) | (with_reducible apply below_alloc1) | (with_reducible apply below_drewN1) | (with_reducible apply below_drew1))))) (first | (go_at_call 60; refine (ifFinite_num _ _).mono ?_; rintro e w' ⟨r, rfl, hr, hb⟩)) <;> (rename_i hHeld; obtain ⟨hB, hC⟩ := hHeld)))
      all_goals
        go_ret2
        exact ⟨_, by rw [HM.out, HX.out]; rfl, by rw [HM.out, HX.out]; simp only [*], below_trans hb1 (by (repeat (first | (with_reducible assumption) | (with_reducible apply below_refl) | (with_reducible apply below_alloc1) | (with_reducible apply below_drewN1) | (with_reducible apply below_drew1))))⟩
end Go.Proofs.Ytkaeohlakeliiaa
