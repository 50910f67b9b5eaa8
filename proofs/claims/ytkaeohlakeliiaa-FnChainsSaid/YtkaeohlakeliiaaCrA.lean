/- FnChains: crews: the numbers as the kernel reckons them, one after the other. No program in sight. -/
import Derived.Test.YtkaeohlakeliiaaRise
import Derived.Test.YtkaeohlakeliiaaGen
namespace Go.Proofs.Ytkaeohlakeliiaa
open Go.RowKit

def frc {β : Type} (x : Option Nat) (f : Option Nat → β) : β := match x with
  | none => f none
  | some 0 => f (some 0)
  | some (b + 1) => f (some (b + 1))
theorem frc_eq {β : Type} (x : Option Nat) (f : Option Nat → β) : frc x f = f x := by
  unfold frc
  split <;> rfl
def fI (z : Nat) : Option Nat := some (floatOfInt .f32 (z : Int))
def fIT (z : Nat) : Option Nat := some ([0, 1065353216, 1073741824, 1077936128, 1082130432, 1084227584, 1086324736, 1088421888, 1090519040].getD z 0)
theorem fIT_eq : ∀ z, z < 9 → fIT z = fI z := by decide +kernel
def fmax64 (x y : Option Nat) : Option Nat :=
  match ford .f64 x y with
  | none => none
  | some .lt => y
  | some .gt => x
  | some .eq => if (x.map fun b => (FloatKind.f64.format.read b).neg) = some true then y else x
def gap8 (x y : Option Nat) : Option Nat := fmax64 (fop .sub .f64 (wid x) (wid y)) (fop .sub .f64 (wid y) (wid x))
def ccent : Nat := 4576918229304087675
def cone : Nat := 1065353216
def gapF {β : Type} (x y : Option Nat) (f : Option Nat → β) : β :=
  frc (wid x) fun a => frc (wid y) fun b => frc (fop .sub .f64 a b) fun d => frc (fop .sub .f64 b a) fun e => frc (fmax64 d e) f
theorem gapF_eq {β : Type} (x y : Option Nat) (f : Option Nat → β) : gapF x y f = f (gap8 x y) := by
  unfold gapF
  simp only [frc_eq]
  rfl

/-! ### As the program has them -/
def cw (m c : Nat) (F R : Option Nat) : Nat → Option Nat
  | 0 => some cone
  | k + 1 => fop .quo .f32 (fop .mul .f32 (fop .mul .f32 (cw m c F R k) (fI (m - k))) F) (fop .mul .f32 (fI (min (k + 1) c)) R)
theorem cw_next (m c : Nat) (F R : Option Nat) (k : Nat) : cw m c F R (k + 1) = fop .quo .f32 (fop .mul .f32 (fop .mul .f32 (cw m c F R k) (fI (m - k))) F) (fop .mul .f32 (fI (min (k + 1) c)) R) := rfl
def sumO (f : Nat → Option Nat) : Nat → Option Nat
  | 0 => some 0
  | k + 1 => fop .add .f32 (sumO f k) (f k)
theorem sumO_next (f : Nat → Option Nat) (k : Nat) : sumO f (k + 1) = fop .add .f32 (sumO f k) (f k) := rfl
def cwP (m c : Nat) (F R : Option Nat) (k : Nat) : Option Nat := fop .quo .f32 (cw m c F R k) (sumO (cw m c F R) (m + 1))
def meanO (f : Nat → Option Nat) : Nat → Option Nat
  | 0 => some 0
  | k + 1 => fop .add .f32 (meanO f k) (fop .mul .f32 (fI k) (f k))
theorem meanO_next (f : Nat → Option Nat) (k : Nat) : meanO f (k + 1) = fop .add .f32 (meanO f k) (fop .mul .f32 (fI k) (f k)) := rfl
def totO (f : Nat → Option Nat) : Nat → Option Nat
  | 0 => some 0
  | k + 1 => fop .add .f64 (totO f k) (wid (f k))
theorem totO_next (f : Nat → Option Nat) (k : Nat) : totO f (k + 1) = fop .add .f64 (totO f k) (wid (f k)) := rfl

/-! ### As the kernel reckons them -/
def cwN {β : Type} (m c : Nat) (F R : Option Nat) (k : Nat) (p : Option Nat) (f : Option Nat → β) : β :=
  frc (fIT (m - k)) fun a => frc (fop .mul .f32 p a) fun b => frc (fop .mul .f32 b F) fun d => frc (fIT (min (k + 1) c)) fun e => frc (fop .mul .f32 e R) fun g => frc (fop .quo .f32 d g) f
def cwL {β : Type} (m c : Nat) (F R : Option Nat) : Nat → Nat → Option Nat → Option Nat → List (Option Nat) → (List (Option Nat) → Option Nat → β) → β
  | 0, _, _, s, l, q => q l s
  | f + 1, k, p, s, l, q => cwN m c F R k p fun x => frc (fop .add .f32 s x) fun t => cwL m c F R f (k + 1) x t (x :: l) q
def divL {β : Type} (s : Option Nat) : List (Option Nat) → List (Option Nat) → (List (Option Nat) → β) → β
  | [], l, q => q l
  | x :: t, l, q => frc (fop .quo .f32 x s) fun y => divL s t (y :: l) q
def meanF {β : Type} : Nat → Option Nat → List (Option Nat) → (Option Nat → β) → β
  | _, s, [], q => q s
  | k, s, x :: t, q => frc (fIT k) fun a => frc (fop .mul .f32 a x) fun b => frc (fop .add .f32 s b) fun d => meanF (k + 1) d t q
def totF {β : Type} : Option Nat → List (Option Nat) → (Option Nat → β) → β
  | s, [], q => q s
  | s, x :: t, q => frc (wid x) fun a => frc (fop .add .f64 s a) fun b => totF b t q
def crewF {β : Type} (m c : Nat) (F R : Option Nat) (q : List (Option Nat) → Option Nat → β) : β :=
  cwL m c F R m 0 (some cone) (some cone) [some cone] fun l s => divL s l [] fun l => meanF 0 (some 0) l (q l)
def nextOk (m c : Nat) (F R : Option Nat) (k : Nat) (x y : Option Nat) : Bool :=
  frc (fIT (m - k)) fun a => frc (fop .mul .f32 x a) fun b => frc (fop .mul .f32 b F) fun d =>
  frc (fIT (min (k + 1) c)) fun e => frc (fop .mul .f32 y e) fun g => frc (fop .mul .f32 g R) fun h => gapF d h fun v => !(ford .f64 v (some cmil) == some .gt)
def allOk (m c : Nat) (F R : Option Nat) : Nat → List (Option Nat) → Bool
  | k, x :: y :: t => nextOk m c F R k x y && allOk m c F R (k + 1) (y :: t)
  | _, _ => true
/-- A share: between 0 and 1. -/
def unitB (x : Option Nat) : Bool := finite32 x && (!(ford .f32 x (some 0) == some .lt) && !(ford .f32 x (some cone) == some .gt))
def crewChk (m c : Nat) (F R few : Option Nat) : Bool :=
  crewF m c F R fun l mean =>
  l.all unitB && (finite32 mean && (!(ford .f32 mean (some 0) == some .lt) && (!(ford .f32 mean (fIT m) == some .gt) && ((frc (wid mean) fun b => frc (fop .add .f64 b (some cmil)) fun d => !(ford .f64 few d == some .gt)) && (allOk m c F R 0 l && (totF (some 0) l fun t => frc (nar t) fun t => gapF t (some cone) fun v => (ford .f64 v (some cmil) == some .lt)))))))
def crewAll (m : Nat) (F R : Nat) : Bool :=
  frc (some (fq (F + 1))) fun F => frc (some (fq (R + 1))) fun R => crewF m m F R fun _ few => finite32 few && ((frc (fop .mul .f32 (fIT m) F) fun a => frc (fop .add .f32 F R) fun b => frc (fop .quo .f32 a b) fun d => gapF few d fun v => !(ford .f64 v (some ccent) == some .gt)) && (frc (wid few) fun few => (List.range m).all fun c => crewChk m (c + 1) F R few))
def crewSum (m a b : Nat) : Bool := (List.range b).all fun F => (List.range 8).all fun R => crewAll m (a + F) R

/-! ### They are the same -/
theorem cwN_eq {β : Type} {m c : Nat} {F R : Option Nat} {k : Nat} (hm : m ≤ 8) (hc : c ≤ 8) (p : Option Nat) (f : Option Nat → β) :
    cwN m c F R k p f = f (fop .quo .f32 (fop .mul .f32 (fop .mul .f32 p (fI (m - k))) F) (fop .mul .f32 (fI (min (k + 1) c)) R)) := by
  unfold cwN
  simp only [frc_eq]
  rw [fIT_eq _ (by omega), fIT_eq _ (by omega)]
theorem cwL_eq {β : Type} {m c : Nat} {F R : Option Nat} (hm : m ≤ 8) (hc : c ≤ 8) (q : List (Option Nat) → Option Nat → β) (f : Nat) : ∀ k,
    cwL m c F R f k (cw m c F R k) (sumO (cw m c F R) (k + 1)) ((List.range (k + 1)).reverse.map (cw m c F R)) q = q ((List.range (k + f + 1)).reverse.map (cw m c F R)) (sumO (cw m c F R) (k + f + 1)) := by
  induction f with
  | zero => intro k; rfl
  | succ f ih =>
    intro k
    have h := ih (k + 1)
    rw [show k + 1 + f + 1 = k + (f + 1) + 1 by omega] at h
    rw [← h]
    show cwN m c F R k (cw m c F R k) (fun x => frc (fop .add .f32 (sumO (cw m c F R) (k + 1)) x) fun t => cwL m c F R f (k + 1) x t (x :: (List.range (k + 1)).reverse.map (cw m c F R)) q) = _
    rw [cwN_eq hm hc]
    simp only [frc_eq]
    rw [← cw_next, ← sumO_next]
    congr 1
    rw [List.range_succ (n := k + 1), List.reverse_append]
    rfl
theorem divL_eq {β : Type} (s : Option Nat) (q : List (Option Nat) → β) (t : List (Option Nat)) : ∀ l, divL s t l q = q ((t.map fun x => fop .quo .f32 x s).reverse ++ l) := by
  induction t with
  | nil => intro l; rfl
  | cons x t ih =>
    intro l
    show frc (fop .quo .f32 x s) (fun y => divL s t (y :: l) q) = _
    rw [frc_eq, ih]
    simp
theorem range_front {α : Type} (f : Nat → α) (n : Nat) : (List.range (n + 1)).map f = f 0 :: (List.range n).map fun j => f (j + 1) := by
  rw [List.range_succ_eq_map, List.map_cons, List.map_map]; rfl
theorem meanF_eq {β : Type} (f : Nat → Option Nat) (q : Option Nat → β) (n : Nat) : ∀ k, k + n ≤ 9 → meanF k (meanO f k) ((List.range n).map fun j => f (k + j)) q = q (meanO f (k + n)) := by
  induction n with
  | zero => intro k _; rfl
  | succ n ih =>
    intro k hk
    rw [range_front]
    show frc (fIT k) (fun a => frc (fop .mul .f32 a (f (k + 0))) fun b => frc (fop .add .f32 (meanO f k) b) fun d => meanF (k + 1) d ((List.range n).map fun j => f (k + (j + 1))) q) = _
    simp only [frc_eq]
    rw [fIT_eq _ (by omega), show f (k + 0) = f k from rfl, ← meanO_next]
    rw [show (fun j => f (k + (j + 1))) = (fun j => f (k + 1 + j)) from funext fun j => by rw [show k + (j + 1) = k + 1 + j by omega]]
    rw [ih (k + 1) (by omega), show k + 1 + n = k + (n + 1) by omega]
theorem totF_eq {β : Type} (f : Nat → Option Nat) (q : Option Nat → β) (n : Nat) : ∀ k, totF (totO f k) ((List.range n).map fun j => f (k + j)) q = q (totO f (k + n)) := by
  induction n with
  | zero => intro k; rfl
  | succ n ih =>
    intro k
    rw [range_front]
    show frc (wid (f (k + 0))) (fun a => frc (fop .add .f64 (totO f k) a) fun b => totF b ((List.range n).map fun j => f (k + (j + 1))) q) = _
    simp only [frc_eq]
    rw [show f (k + 0) = f k from rfl, ← totO_next]
    rw [show (fun j => f (k + (j + 1))) = (fun j => f (k + 1 + j)) from funext fun j => by rw [show k + (j + 1) = k + 1 + j by omega]]
    rw [ih (k + 1), show k + 1 + n = k + (n + 1) by omega]
theorem crewF_eq {β : Type} {m c : Nat} {F R : Option Nat} (hm : m ≤ 8) (hc : c ≤ 8) (q : List (Option Nat) → Option Nat → β) : crewF m c F R q = q ((List.range (m + 1)).map (cwP m c F R)) (meanO (cwP m c F R) (m + 1)) := by
  unfold crewF
  have h := cwL_eq (F := F) (R := R) hm hc (fun l s => divL s l [] fun l => meanF 0 (some 0) l (q l)) m 0
  simp only [Nat.zero_add] at h
  have e1 : sumO (cw m c F R) 1 = some cone := by
    show fop .add .f32 (some 0) (some cone) = some cone
    decide +kernel
  rw [e1] at h
  have e2 : (List.range 1).reverse.map (cw m c F R) = [some cone] := rfl
  rw [e2] at h
  have e3 : cw m c F R 0 = some cone := rfl
  rw [e3] at h
  rw [h, divL_eq, List.append_nil, List.map_map, ← List.map_reverse, List.reverse_reverse]
  have e4 : ((fun x => fop .quo .f32 x (sumO (cw m c F R) (m + 1))) ∘ cw m c F R) = cwP m c F R := rfl
  rw [e4]
  have := meanF_eq (cwP m c F R) (q ((List.range (m + 1)).map (cwP m c F R))) (m + 1) 0 (by omega)
  rw [show (fun j => cwP m c F R (0 + j)) = cwP m c F R from funext fun j => by rw [Nat.zero_add], Nat.zero_add] at this
  exact this
/-- What a pair of neighbours answers. -/
def nextB (m c : Nat) (F R : Option Nat) (k : Nat) (x y : Option Nat) : Bool := !(ford .f64 (gap8 (fop .mul .f32 (fop .mul .f32 x (fI (m - k))) F) (fop .mul .f32 (fop .mul .f32 y (fI (min (k + 1) c))) R)) (some cmil) == some .gt)
theorem nextOk_eq {m c : Nat} {F R : Option Nat} {k : Nat} (hm : m ≤ 8) (hc : c ≤ 8) (x y : Option Nat) : nextOk m c F R k x y = nextB m c F R k x y := by
  unfold nextOk nextB
  simp only [frc_eq, gapF_eq]
  rw [fIT_eq _ (by omega), fIT_eq _ (by omega)]
theorem allOk_eq {m c : Nat} {F R : Option Nat} (hm : m ≤ 8) (hc : c ≤ 8) (f : Nat → Option Nat) (n : Nat) : ∀ k, allOk m c F R k ((List.range (n + 1)).map fun j => f (k + j)) = true → ∀ j, j < n → nextB m c F R (k + j) (f (k + j)) (f (k + j + 1)) = true := by
  induction n with
  | zero => intro k _ j hj; omega
  | succ n ih =>
    intro k h j hj
    rw [range_front, range_front] at h
    have h2 : (nextOk m c F R k (f (k + 0)) (f (k + (0 + 1))) && allOk m c F R (k + 1) ((List.range (n + 1)).map fun j => f (k + 1 + j))) = true := by
      rw [range_front]
      rw [show (fun j => f (k + 1 + (j + 1))) = (fun j => f (k + (j + 1 + 1))) from funext fun j => by rw [show k + 1 + (j + 1) = k + (j + 1 + 1) by omega]]
      exact h
    obtain ⟨a, b⟩ := Bool.and_eq_true_iff.1 h2
    rw [nextOk_eq hm hc] at a
    by_cases e : j = 0
    · subst e; exact a
    · have := ih (k + 1) b (j - 1) (by omega)
      rwa [show k + 1 + (j - 1) = k + j by omega] at this
/-- What is known of crews. -/
structure CrewOk (m c : Nat) (F R : Option Nat) : Prop where
  unit : ∀ k, k < m + 1 → unitB (cwP m c F R k) = true
  finM : finite32 (meanO (cwP m c F R) (m + 1)) = true
  finN : finite32 (meanO (cwP m m F R) (m + 1)) = true
  low : (ford .f32 (meanO (cwP m c F R) (m + 1)) (some 0) == some .lt) = false
  top : (ford .f32 (meanO (cwP m c F R) (m + 1)) (fI m) == some .gt) = false
  few : (ford .f64 (wid (meanO (cwP m m F R) (m + 1))) (fop .add .f64 (wid (meanO (cwP m c F R) (m + 1))) (some cmil)) == some .gt) = false
  mid : (ford .f64 (gap8 (meanO (cwP m m F R) (m + 1)) (fop .quo .f32 (fop .mul .f32 (fI m) F) (fop .add .f32 F R))) (some ccent) == some .gt) = false
  next : ∀ k, k < m → nextB m c F R k (cwP m c F R k) (cwP m c F R (k + 1)) = true
  tot : (ford .f64 (gap8 (nar (totO (cwP m c F R) (m + 1))) (some cone)) (some cmil) == some .lt) = true
theorem CrewOk.fin {m c : Nat} {F R : Option Nat} (h : CrewOk m c F R) (k : Nat) (hk : k < m + 1) : finite32 (cwP m c F R k) = true := (Bool.and_eq_true_iff.1 (h.unit k hk)).1
theorem crew_of {m a b F R c : Nat} (h : crewSum m a b = true) (hm : m ≤ 8) (hF : a ≤ F) (hFb : F < a + b) (hR : R < 8) (hc1 : 1 ≤ c) (hc : c ≤ m) : CrewOk m c (some (fq (F + 1))) (some (fq (R + 1))) := by
  unfold crewSum at h
  have h1 := List.all_eq_true.1 h (F - a) (List.mem_range.2 (by omega))
  have h2 := List.all_eq_true.1 h1 R (List.mem_range.2 hR)
  rw [show a + (F - a) = F by omega] at h2
  unfold crewAll at h2
  simp only [frc_eq, gapF_eq] at h2
  rw [crewF_eq hm hm] at h2
  obtain ⟨a1, a2⟩ := Bool.and_eq_true_iff.1 h2
  obtain ⟨a3, a4⟩ := Bool.and_eq_true_iff.1 a2
  have h3 := List.all_eq_true.1 a4 (c - 1) (List.mem_range.2 (by omega))
  rw [show c - 1 + 1 = c by omega] at h3
  unfold crewChk at h3
  simp only [frc_eq, gapF_eq] at h3
  rw [crewF_eq hm (by omega)] at h3
  obtain ⟨b1, h3⟩ := Bool.and_eq_true_iff.1 h3
  obtain ⟨b2, h3⟩ := Bool.and_eq_true_iff.1 h3
  obtain ⟨b3, h3⟩ := Bool.and_eq_true_iff.1 h3
  obtain ⟨b4, h3⟩ := Bool.and_eq_true_iff.1 h3
  obtain ⟨b5, h3⟩ := Bool.and_eq_true_iff.1 h3
  obtain ⟨b6, b7⟩ := Bool.and_eq_true_iff.1 h3
  rw [fIT_eq _ (by omega)] at a3 b4
  have hz : ∀ f : Nat → Option Nat, (fun j => f (0 + j)) = f := fun f => funext fun j => by rw [Nat.zero_add]
  refine ⟨fun k hk => ?_, b2, a1, by simpa using b3, by simpa using b4, by simpa using b5, by simpa using a3, fun k hk => ?_, ?_⟩
  · exact List.all_eq_true.1 b1 _ (List.mem_map.2 ⟨k, List.mem_range.2 hk, rfl⟩)
  · have := allOk_eq (m := m) (c := c) (F := some (fq (F + 1))) (R := some (fq (R + 1))) hm (by omega) (cwP m c (some (fq (F + 1))) (some (fq (R + 1)))) m 0 (by rw [hz]; exact b6) k hk
    rwa [Nat.zero_add] at this
  · have := totF_eq (cwP m c (some (fq (F + 1))) (some (fq (R + 1)))) (fun t => ford .f64 (gap8 (nar t) (some cone)) (some cmil) == some .lt) (m + 1) 0
    rw [hz, Nat.zero_add] at this
    rw [← this]
    exact b7
end Go.Proofs.Ytkaeohlakeliiaa
