/- FnChains: a drawn chain, in quarters: its equations, and what its shares are worth. No program in sight. -/
import Derived.Test.YtkaeohlakeliiaaCh
import Derived.Test.YtkaeohlakeliiaaRise
import Derived.Test.YtkaeohlakeliiaaBalImpl
import Derived.Test.YtkaeohlakeliiaaGen
namespace Go.Proofs.Ytkaeohlakeliiaa
open Go.RowKit

/-! ## ChA -/
/-- Rates in quarters: at most 2, none to itself, one to the next state. -/
structure QOk (n : Nat) (qs : List Nat) : Prop where
  len : qs.length = n * n
  le : ∀ i, qs.getD i 0 ≤ 8
  own : ∀ i, i < n → qs.getD (i * n + i) 0 = 0
  ring : 2 ≤ n → ∀ i, i < n → 1 ≤ qs.getD (i * n + (i + 1) % n) 0
def qq (n : Nat) (qs : List Nat) (i k : Nat) : Rat := if i < n ∧ k < n then ((qs.getD (i * n + k) 0 : Nat) : Rat) / 4 else 0
theorem natr_le {a b : Nat} (h : a ≤ b) : (a : Rat) ≤ (b : Rat) := Rat.natCast_le_natCast.2 h
theorem natr_0 (a : Nat) : (0 : Rat) ≤ (a : Rat) := Rat.natCast_nonneg
theorem gen_of {n : Nat} {qs : List Nat} (h : QOk n qs) : Gen n (qq n qs) := by
  refine ⟨fun i k => ?_, fun i k => ?_, fun i => ?_, fun h2 i hi => ?_⟩
  · unfold qq
    have := natr_0 (qs.getD (i * n + k) 0)
    split <;> grind
  · unfold qq
    have := natr_le (h.le (i * n + k))
    rw [show ((8 : Nat) : Rat) = 8 from rfl] at this
    split <;> grind
  · unfold qq
    by_cases c : i < n
    · rw [if_pos ⟨c, c⟩, h.own i c]; decide +kernel
    · rw [if_neg (by omega)]
  · have hv : (i + 1) % n < n := Nat.mod_lt _ (by omega)
    have := natr_le (h.ring h2 i hi)
    rw [show ((1 : Nat) : Rat) = 1 from rfl] at this
    unfold qq
    rw [if_pos ⟨hi, hv⟩]; grind
theorem rv_q {n : Nat} {qs : List Nat} (h : QOk n qs) (j : Nat) : RV .f32 (atX (qs.map fq) j) (((qs.getD j 0 : Nat) : Rat) / 4) := by
  have e : (qs.map fq).getD j 0 = fq (qs.getD j 0) := by
    rw [List.getD_eq_getElem?_getD, List.getD_eq_getElem?_getD, List.getElem?_map]
    cases qs[j]? with
    | none => simp; decide +kernel
    | some q => simp
  unfold atX
  rw [e]
  exact rv_fq _ (by have := h.le j; omega)
def nsum (qs : List Nat) (a : Nat) : Nat → Nat
  | 0 => 0
  | m + 1 => nsum qs a m + qs.getD (a + m) 0
theorem nsum_le {n : Nat} {qs : List Nat} (h : QOk n qs) (a m : Nat) : nsum qs a m ≤ 8 * m := by
  induction m with
  | zero => exact Nat.le_refl _
  | succ m ih => have := h.le (a + m); show nsum qs a m + _ ≤ _; omega
theorem nsum_less {n : Nat} {qs : List Nat} (h : QOk n qs) (a k m : Nat) (hk : k < m) (h0 : qs.getD (a + k) 0 = 0) : nsum qs a m + 8 ≤ 8 * m := by
  induction m with
  | zero => omega
  | succ m ih =>
    show nsum qs a m + _ + 8 ≤ _
    by_cases e : k = m
    · subst e; have := nsum_le h a k; omega
    · have := ih (by omega)
      have := h.le (a + m)
      omega
theorem leave_rv {n : Nat} {qs : List Nat} (h : QOk n qs) (h5 : n ≤ 5) (k m : Nat) (hm : m ≤ n) : RV .f32 (leaveS (qs.map fq) n k m) (((nsum qs (k * n) m : Nat) : Rat) / 4) := by
  induction m with
  | zero => exact RV.eq ⟨0, isV_zero .f32, by rw [show ((0 : Int) : Rat) = 0 from rfl, Rat.zero_mul]⟩ (by show (0 : Rat) = ((0 : Nat) : Rat) / 4; decide +kernel)
  | succ m ih =>
    have a := wn_add (ih (by omega)) (rv_q h (k * n + m))
    have e : ((nsum qs (k * n) m : Nat) : Rat) / 4 + ((qs.getD (k * n + m) 0 : Nat) : Rat) / 4 = ((nsum qs (k * n) (m + 1) : Nat) : Rat) / 4 := by
      show _ = ((nsum qs (k * n) m + qs.getD (k * n + m) 0 : Nat) : Rat) / 4
      rw [Rat.natCast_add]; grind
    rw [e] at a
    exact wn_same a (rv_fq _ (by have := nsum_le h (k * n) (m + 1); omega))
theorem lvs_eq {n : Nat} {qs : List Nat} (k : Nat) (hk : k < n) : lvs n (qq n qs) k = ((nsum qs (k * n) n : Nat) : Rat) / 4 := by
  have : ∀ m, m ≤ n → sm (qq n qs k) m = ((nsum qs (k * n) m : Nat) : Rat) / 4 := by
    intro m
    induction m with
    | zero => intro _; show (0 : Rat) = ((0 : Nat) : Rat) / 4; decide +kernel
    | succ m ih =>
      intro hm
      rw [sm_next, ih (by omega)]
      unfold qq
      rw [if_pos ⟨hk, by omega⟩]
      show _ = ((nsum qs (k * n) m + qs.getD (k * n + m) 0 : Nat) : Rat) / 4
      rw [Rat.natCast_add]; grind
  exact this n (Nat.le_refl n)
theorem lvs_le {n : Nat} {qs : List Nat} (h : QOk n qs) (h5 : n ≤ 5) (k : Nat) (hk : k < n) : 0 ≤ lvs n (qq n qs) k ∧ lvs n (qq n qs) k ≤ 8 := by
  rw [lvs_eq k hk]
  have a := natr_0 (nsum qs (k * n) n)
  have b := natr_le (show nsum qs (k * n) n ≤ 32 by have := nsum_less h (k * n) k n hk (h.own k hk); omega)
  rw [show ((32 : Nat) : Rat) = 32 from rfl] at b
  constructor <;> grind
theorem rv_zero32 : RV .f32 (some 0) 0 := ⟨0, isV_zero .f32, by rw [show ((0 : Int) : Rat) = 0 from rfl, Rat.zero_mul]⟩
theorem rv_one32 : RV .f32 (some 1065353216) 1 := by
  have := rv_fq 4 (by omega)
  rw [(fq_some 4 (by omega)).2.1, show fq 4 = 1065353216 from by decide +kernel] at this
  exact RV.eq this (by decide +kernel)
theorem neg_rv {x : Option Nat} {r : Rat} (h : RV .f32 x r) : RV .f32 (fop .sub .f32 (some 0) x) (-r) := by
  obtain ⟨v, hv, e⟩ := h
  have w := wn_sub rv_zero32 (⟨v, hv, e⟩ : RV .f32 x r)
  rw [show (0 : Rat) - r = -r by grind] at w
  exact wn_same w ⟨-v, opp_isV hv, by rw [Rat.intCast_neg, e]; grind⟩
theorem m0_rv {n : Nat} {qs : List Nat} (h : QOk n qs) (h5 : n ≤ 5) (i j : Nat) (hi : i < n) (hj : j ≤ n) :
    RV .f32 (mat0 (qs.map fq) n i j) (if i + 1 < n then (if j < n then (if j = i then -lvs n (qq n qs) i else qq n qs j i) else 0) else 1) := by
  unfold mat0
  by_cases c1 : i + 1 < n
  · rw [if_pos c1, if_pos c1]
    by_cases c2 : j < n
    · rw [if_pos c2, if_pos c2]
      by_cases c3 : j = i
      · rw [if_pos c3, if_pos c3, lvs_eq i hi]
        exact neg_rv (leave_rv h h5 i n (Nat.le_refl n))
      · rw [if_neg c3, if_neg c3]
        unfold qq
        rw [if_pos ⟨c2, hi⟩]
        exact rv_q h _
    · rw [if_neg c2, if_neg c2]; exact rv_zero32
  · rw [if_neg c1, if_neg c1]; exact rv_one32
theorem m0_vl {n : Nat} {qs : List Nat} (h : QOk n qs) (h5 : n ≤ 5) (i j : Nat) (hi : i < n) (hj : j ≤ n) :
    vl (mat0 (qs.map fq) n i j) = (if i + 1 < n then (if j < n then (if j = i then -lvs n (qq n qs) i else qq n qs j i) else 0) else 1) := (m0_rv h h5 i j hi hj).vl
theorem m0_act {n : Nat} {qs : List Nat} (h : QOk n qs) (h5 : n ≤ 5) : Act n 0 (mat0 (qs.map fq) n) (p2 3) (p2 0) := by
  have e3 : p2 3 = 8 := by decide +kernel
  have e0 : p2 0 = 1 := by decide +kernel
  refine ⟨fun i j h1 h2 h3 h4 => (m0_rv h h5 i j h2 h4).own, fun i j h1 h2 h3 h4 => ?_, fun i h1 h2 => ?_⟩
  · rw [m0_vl h h5 i j h2 (by omega), e3]
    by_cases c1 : i + 1 < n
    · rw [if_pos c1, if_pos h4]
      by_cases c3 : j = i
      · rw [if_pos c3]
        have := lvs_le h h5 i h2
        exact rab_of (by grind) (by grind)
      · rw [if_neg c3]
        have a := (gen_of h).low j i
        have b := (gen_of h).two j i
        exact rab_of (by grind) (by grind)
    · rw [if_neg c1]; exact rab_of (by grind) (by grind)
  · rw [m0_vl h h5 i n h2 (Nat.le_refl n), e0, if_neg (Nat.lt_irrefl n)]
    split
    · exact rab_of (by grind) (by grind)
    · exact rab_of (by grind) (by grind)
theorem m0_lk {n : Nat} {qs : List Nat} (hn : 1 ≤ n) (h : QOk n qs) (h5 : n ≤ 5) : Lk n (qq n qs) (mat0 (qs.map fq) n) := by
  intro x s
  refine ⟨fun i hi => ?_, ?_⟩
  · unfold row bal
    rw [m0_vl h h5 i n (by omega) (Nat.le_refl n), if_pos hi, if_neg (Nat.lt_irrefl n), Nat.sub_zero]
    have e : sm (fun t => vl (mat0 (qs.map fq) n i (0 + t)) * x (0 + t)) n = sm (fun t => (if t = i then -lvs n (qq n qs) i else qq n qs t i) * x t) n := sm_congr fun t ht => by
      rw [Nat.zero_add, m0_vl h h5 i t (by omega) (by omega), if_pos hi, if_pos ht]
    rw [e, sm_upd (g := fun t => x t * qq n qs t i) (a := i) (by omega) (fun t ht c => by simp only [c, if_false]; grind)]
    have o := (gen_of h).own i
    simp only [if_true]
    rw [o]
    grind
  · unfold row
    rw [m0_vl h h5 (n - 1) n (by omega) (Nat.le_refl n), if_neg (by omega), Nat.sub_zero]
    have e : sm (fun t => vl (mat0 (qs.map fq) n (n - 1) (0 + t)) * x (0 + t)) n = sm x n := sm_congr fun t ht => by
      rw [Nat.zero_add, m0_vl h h5 (n - 1) t (by omega) (by omega), if_neg (by omega)]; grind
    rw [e]; grind
theorem fq_fin {q : Nat} (hq : q ≤ 8) : notLessB (ab .f32 (fq q)) = true := by
  have h := rv_fq q (by omega)
  unfold notLessB
  rw [show finite32 (ab .f32 (fq q)) = true from h.fin]
  by_cases c : 0 < ((q : Nat) : Rat) / 4
  · rw [rv_gt h rv_zero32 c]; rfl
  · rw [rv_eq h rv_zero32 (by have := natr_0 q; grind)]; rfl
theorem chain_ok {n : Nat} {qs : List Nat} (hn : 1 ≤ n) (h : QOk n qs) (h5 : n ≤ 5) : chainB (qs.map fq) n = true := by
  have hq : ∀ q ∈ qs, q ≤ 8 := by
    intro q hq
    obtain ⟨i, hi, e⟩ := List.getElem_of_mem hq
    have := h.le i
    rwa [List.getD_eq_getElem?_getD, List.getElem?_eq_getElem hi, e] at this
  unfold chainB
  rw [decide_eq_true (show (1 : Int) ≤ (n : Int) by omega), decide_eq_true (show (n : Int) ≤ 8 by omega), decide_eq_true (show (((qs.map fq).length : Nat) : Int) = (n : Int) * (n : Int) by rw [List.length_map, h.len, Int.natCast_mul])]
  have e1 : ((qs.map fq).all fun b => notLessB (ab .f32 b)) = true := by
    rw [List.all_map]
    exact List.all_eq_true.2 fun q m => fq_fin (hq q m)
  rw [e1, Int.toNat_natCast]
  refine diag_yes fun i hi => ?_
  have r := rv_q h (i * n + i)
  rw [h.own i hi] at r
  rw [rv_eq r rv_zero32 (by decide +kernel)]
  rfl
/-- All there is to know of the shares of a drawn chain. -/
theorem chain_told {n : Nat} {qs : List Nat} (hn : 1 ≤ n) (h : QOk n qs) (h5 : n ≤ 5) :
    ∃ X T, balAll (balOf (qs.map fq) n) = true ∧ (balXs (balOf (qs.map fq) n)).length = n ∧ (∀ j, j < n → RV .f32 (atX (balXs (balOf (qs.map fq) n)) j) (X j)) ∧ Told n (qq n qs) X T := by
  obtain ⟨B, X, T, h1, h2, h3⟩ := bal_told hn h5 (gen_of h) (m0_lk hn h h5) (m0_act h h5)
  have hb : balOf (qs.map fq) n = some (outL B n) := by
    unfold balOf balRaw
    rw [chain_ok hn h h5, Int.toNat_natCast, h1]; rfl
  have hf : finL (outL B n) = true := by
    unfold finL outL
    rw [List.all_map]
    exact List.all_eq_true.2 fun j hj => (h2 j (List.mem_range.1 hj)).fin
  obtain ⟨l1, l2, l3⟩ := list_rv (L := outL B n) rfl (fun k hk => ⟨_, h2 k hk⟩)
  refine ⟨X, T, by rw [hb]; exact hf, ?_, fun j hj => ?_, h3⟩
  · rw [hb]; simp only [balXs, hf, if_true]; exact l2
  · rw [hb]
    simp only [balXs, hf, if_true]
    unfold atX
    rw [(l3 j hj).1]
    exact h2 j hj

/-! ## ChB -/
def comeS (rs : List Nat) (n k : Nat) (S : Nat → Option Nat) : Nat → Option Nat
  | 0 => some 0
  | m + 1 => fop .add .f32 (comeS rs n k S m) (fop .mul .f32 (S m) (atX rs (m * n + k)))
theorem comeS_next (rs : List Nat) (n k : Nat) (S : Nat → Option Nat) (m : Nat) : comeS rs n k S (m + 1) = fop .add .f32 (comeS rs n k S m) (fop .mul .f32 (S m) (atX rs (m * n + k))) := rfl
def afterS (rs : List Nat) (n : Nat) (h : Option Nat) (S : Nat → Option Nat) (k : Nat) : Option Nat :=
  fop .add .f32 (S k) (fop .mul .f32 h (fop .sub .f32 (comeS rs n k S n) (fop .mul .f32 (S k) (leaveS rs n k n))))
def stepsS (rs : List Nat) (n : Nat) (h : Option Nat) (S : Nat → Option Nat) : Nat → Nat → Option Nat
  | 0 => S
  | t + 1 => afterS rs n h (stepsS rs n h S t)
theorem op32 {x : Option Nat} {z : Rat} (h : Wn .f32 x z) (h1 : -32 ≤ z) (h2 : z ≤ 32) : ∃ r, RV .f32 x r ∧ rab (r - z) ≤ 1 / 250000 := by
  obtain ⟨r, hr, -, -, r1, r2⟩ := near32 h 32 (by grind) h1 h2
  rw [tiny_eq] at r1 r2
  exact ⟨r, hr, rab_of (by grind) (by grind)⟩
theorem rv_h16 : RV .f32 (some 1031798784) (1 / 16) := by
  refine ⟨_, ⟨_, rfl, by decide +kernel, rfl⟩, ?_⟩
  rw [show fv FloatKind.f32.format 1031798784 = 44601490397061246283071436545296723011960832 from by decide +kernel, unit32_rat]
  decide +kernel
theorem come_near {n : Nat} {qs : List Nat} (h : QOk n qs) (h5 : n ≤ 5) {S : Nat → Option Nat} {d : Nat → Rat} (hS : ∀ i, i < n → RV .f32 (S i) (d i)) (hd : S1 d n ≤ 2) {k : Nat} (hk : k < n) (m : Nat) (hm : m ≤ n) :
    ∃ r, RV .f32 (comeS (qs.map fq) n k S m) r ∧ rab (r - sm (fun i => d i * qq n qs i k) m) ≤ (m : Rat) * (1 / 125000) := by
  induction m with
  | zero =>
    refine ⟨0, rv_zero32, ?_⟩
    rw [show sm (fun i => d i * qq n qs i k) 0 = 0 from rfl, show ((0 : Nat) : Rat) = 0 from rfl]
    exact rab_of (by grind) (by grind)
  | succ m ih =>
    obtain ⟨r, hr, e1⟩ := ih (by omega)
    have g := gen_of h
    have hq : RV .f32 (atX (qs.map fq) (m * n + k)) (qq n qs m k) := by
      unfold qq
      rw [if_pos ⟨by omega, hk⟩]
      exact rv_q h _
    have q0 := g.low m k
    have q2 := g.two m k
    have part : sm (fun i => rab (d i)) (m + 1) ≤ S1 d n := sm_pre (fun i _ => (rab_bd _).2.2) hm
    have ideal : rab (sm (fun i => d i * qq n qs i k) (m + 1)) ≤ 2 * sm (fun i => rab (d i)) (m + 1) := by
      refine Rat.le_trans (rab_sm _ _) ?_
      rw [← sm_mul]
      refine sm_le fun i _ => ?_
      have a := rab_mul (d i) (qq n qs i k)
      have b := g.low i k
      have c := g.two i k
      have e : rab (qq n qs i k) ≤ 2 := rab_of (by grind) (by grind)
      have := Rat.mul_nonneg (rab_bd (d i)).2.2 (show 0 ≤ 2 - rab (qq n qs i k) by grind)
      grind
    have p0 := sm_nonneg (f := fun i => rab (d i)) (m := m) (fun i _ => (rab_bd _).2.2)
    have x1 := rab_mul (d m) (qq n qs m k)
    have x2 := rab_bd (d m)
    have x3 : rab (qq n qs m k) ≤ 2 := rab_of (by grind) (by grind)
    have x4 := Rat.mul_nonneg x2.2.2 (show 0 ≤ 2 - rab (qq n qs m k) by grind)
    have hw := wn_mul (hS m (by omega)) hq
    rw [sm_next] at part ideal ⊢
    generalize d m * qq n qs m k = z at *
    have z1 := rab_bd z
    have mc : ((m + 1 : Nat) : Rat) = (m : Rat) + 1 := by rw [Rat.natCast_add]; rfl
    have hm5 := natr_le (show m ≤ 4 by omega)
    rw [show ((4 : Nat) : Rat) = 4 from rfl] at hm5
    have hm0 := natr_0 m
    obtain ⟨p, hp, e2⟩ := op32 hw (by grind) (by grind)
    have i1 := rab_bd (sm (fun i => d i * qq n qs i k) m + z)
    have i2 := rab_bd (r - sm (fun i => d i * qq n qs i k) m)
    have i3 := rab_bd (p - z)
    rw [sm_next] at ideal
    obtain ⟨t, ht, e3⟩ := op32 (wn_add hr hp) (by grind) (by grind)
    have i4 := rab_bd (t - (r + p))
    refine ⟨t, ht, ?_⟩
    rw [mc]
    exact rab_of (by grind) (by grind)
/-- One step. -/
theorem next_near {n : Nat} {qs : List Nat} (h : QOk n qs) (h5 : n ≤ 5) {S : Nat → Option Nat} {d : Nat → Rat} (hS : ∀ i, i < n → RV .f32 (S i) (d i)) (hd : S1 d n ≤ 2) {k : Nat} (hk : k < n) :
    ∃ r, RV .f32 (afterS (qs.map fq) n (some 1031798784) S k) r ∧ rab (r - (d k + 1 / 16 * bal n (qq n qs) d k)) ≤ 1 / 80000 := by
  obtain ⟨c, hc, e1⟩ := come_near h h5 hS hd hk n (Nat.le_refl n)
  have hl := leave_rv h h5 k n (Nat.le_refl n)
  rw [← lvs_eq k hk] at hl
  obtain ⟨l0, l1⟩ := lvs_le h h5 k hk
  have dk : rab (d k) ≤ 2 := Rat.le_trans (sm_one (f := fun t => rab (d t)) (m := n) (fun i _ => (rab_bd _).2.2) k hk) hd
  have x1 := rab_bd (d k)
  have hn := natr_le h5
  rw [show ((5 : Nat) : Rat) = 5 from rfl] at hn
  have ci : rab (sm (fun i => d i * qq n qs i k) n) ≤ 4 := by
    refine Rat.le_trans (rab_sm _ _) ?_
    have : sm (fun i => rab (d i * qq n qs i k)) n ≤ 2 * S1 d n := by
      unfold S1
      rw [← sm_mul]
      refine sm_le fun i _ => ?_
      have a := rab_mul (d i) (qq n qs i k)
      have b := (gen_of h).low i k
      have c := (gen_of h).two i k
      have e : rab (qq n qs i k) ≤ 2 := rab_of (by grind) (by grind)
      have := Rat.mul_nonneg (rab_bd (d i)).2.2 (show 0 ≤ 2 - rab (qq n qs i k) by grind)
      grind
    grind
  have hw := wn_mul (hS k hk) hl
  have hb : bal n (qq n qs) d k = sm (fun i => d i * qq n qs i k) n - d k * lvs n (qq n qs) k := rfl
  have y1 := rab_mul (d k) (lvs n (qq n qs) k)
  have y2 : rab (lvs n (qq n qs) k) ≤ 8 := rab_of (by grind) (by grind)
  have y3 := Rat.mul_nonneg x1.2.2 (show 0 ≤ 8 - rab (lvs n (qq n qs) k) by grind)
  have hSk := hS k hk
  rw [hb]
  unfold afterS
  generalize sm (fun i => d i * qq n qs i k) n = I at *
  generalize d k * lvs n (qq n qs) k = z at *
  have z1 := rab_bd z
  have i1 := rab_bd I
  have i2 := rab_bd (c - I)
  obtain ⟨p, hp, e2⟩ := op32 hw (by grind) (by grind)
  have i3 := rab_bd (p - z)
  obtain ⟨s, hs, e3⟩ := op32 (wn_sub hc hp) (by grind) (by grind)
  have i4 := rab_bd (s - (c - p))
  obtain ⟨t, ht, e4⟩ := op32 (wn_mul rv_h16 hs) (by grind) (by grind)
  have i5 := rab_bd (t - 1 / 16 * s)
  obtain ⟨r, hr, e5⟩ := op32 (wn_add hSk ht) (by grind) (by grind)
  have i6 := rab_bd (r - (d k + t))
  exact ⟨r, hr, rab_of (by grind) (by grind)⟩
theorem bal_abs {n : Nat} {q : Nat → Nat → Rat} {y : Nat → Rat} {T : Rat} (h : SetBd n q y T) : sm (fun k => rab (bal n q y k)) n ≤ 2 * T := by
  obtain ⟨c, hc⟩ : ∃ c : Nat → Rat, c = fun k => if bal n q y k < 0 then 0 else 1 := ⟨_, rfl⟩
  have h1 := (h c (fun k => by rw [hc]; by_cases e : bal n q y k < 0 <;> simp [e])).1
  have h2 := (h (fun k => 1 - c k) (fun k => by rw [hc]; by_cases e : bal n q y k < 0 <;> simp only [e, if_true, if_false] <;> grind)).2
  have e : sm (fun k => rab (bal n q y k)) n = sm (fun k => c k * bal n q y k) n - sm (fun k => (1 - c k) * bal n q y k) n := by
    rw [← sm_sub]
    refine sm_congr fun k _ => ?_
    rw [hc]
    unfold rab
    by_cases e : bal n q y k < 0
    · have : ¬ 0 ≤ bal n q y k := by grind
      simp only [e, this, if_true, if_false]; grind
    · have : 0 ≤ bal n q y k := by grind
      simp only [e, this, if_true, if_false]; grind
  grind
theorem bal_diff (n : Nat) (q : Nat → Nat → Rat) (y x : Nat → Rat) (k : Nat) : bal n q y k = bal n q (fun i => y i - x i) k + bal n q x k := by
  unfold bal
  have : sm (fun i => y i * q i k) n = sm (fun i => (y i - x i) * q i k) n + sm (fun i => x i * q i k) n := by
    rw [← sm_add]; exact sm_congr fun i _ => by grind
  rw [this]; grind
/-- A step does not lengthen. -/
theorem step_short {n : Nat} {qs : List Nat} (h : QOk n qs) (h5 : n ≤ 5) (z : Nat → Rat) {k : Nat} (hk : k < n) : rab (z k + 1 / 16 * bal n (qq n qs) z k) ≤ rab (z k) + 1 / 16 * bal n (qq n qs) (fun i => rab (z i)) k := by
  obtain ⟨l0, l1⟩ := lvs_le h h5 k hk
  have a : rab (sm (fun i => z i * qq n qs i k) n) ≤ sm (fun i => rab (z i) * qq n qs i k) n := by
    refine Rat.le_trans (rab_sm _ _) (sm_le fun i _ => ?_)
    have a := rab_mul (z i) (qq n qs i k)
    have b := (gen_of h).low i k
    rwa [show rab (qq n qs i k) = qq n qs i k from if_pos b] at a
  unfold bal
  generalize sm (fun i => z i * qq n qs i k) n = I at *
  generalize sm (fun i => rab (z i) * qq n qs i k) n = J at *
  have b := rab_bd I
  have c := rab_bd (z k)
  have d := Rat.mul_nonneg (show 0 ≤ rab (z k) - z k by grind) (show 0 ≤ 1 - lvs n (qq n qs) k / 16 by grind)
  have e := Rat.mul_nonneg (show 0 ≤ rab (z k) + z k by grind) (show 0 ≤ 1 - lvs n (qq n qs) k / 16 by grind)
  exact rab_of (by grind) (by grind)
def EB (T : Rat) (t : Nat) : Rat := 4 * T + (t : Rat) * (T / 8 + 1 / 16000)
theorem steps_near {n : Nat} {qs : List Nat} (h : QOk n qs) (h5 : n ≤ 5) {X : Nat → Rat} {T : Rat} (hT : Told n (qq n qs) X T) {S : Nat → Option Nat} (hS : ∀ i, i < n → RV .f32 (S i) (if X i < 0 then 0 else X i)) (t : Nat) (ht : t ≤ 20) :
    ∃ D : Nat → Rat, (∀ k, k < n → RV .f32 (stepsS (qs.map fq) n (some 1031798784) S t k) (D k)) ∧ sm (fun k => rab (D k - X k)) n ≤ EB T t := by
  have T0 := hT.pos
  have T1 := hT.le
  induction t with
  | zero =>
    refine ⟨fun i => if X i < 0 then 0 else X i, hS, ?_⟩
    have e : sm (fun k => rab ((if X k < 0 then 0 else X k) - X k)) n = negP n X := by
      unfold negP
      refine sm_congr fun k _ => ?_
      unfold rab
      by_cases c : X k < 0
      · simp only [c, if_true]
        rw [if_pos (by grind)]; grind
      · simp only [c, if_false]
        rw [if_pos (by grind)]; grind
    have := hT.neg
    unfold EB
    rw [show ((0 : Nat) : Rat) = 0 from rfl]
    show sm (fun k => rab ((if X k < 0 then 0 else X k) - X k)) n ≤ _
    rw [e]; grind
  | succ t ih =>
    obtain ⟨D, hD, e1⟩ := ih (by omega)
    have t20 := natr_le (show t ≤ 19 by omega)
    rw [show ((19 : Nat) : Rat) = 19 from rfl] at t20
    have t0 := natr_0 t
    have eb : EB T t ≤ 1 / 100 := by
      unfold EB
      have := Rat.mul_nonneg (show 0 ≤ 19 - (t : Rat) by grind) (show 0 ≤ T / 8 + 1 / 16000 by grind)
      grind
    have hd : S1 D n ≤ 2 := by
      have : S1 D n ≤ S1 X n + sm (fun k => rab (D k - X k)) n := by
        unfold S1
        rw [← sm_add]
        refine sm_le fun k _ => ?_
        have := rab_add (X k) (D k - X k)
        rwa [show X k + (D k - X k) = D k by grind] at this
      have := hT.size
      grind
    have pick : ∀ k, ∃ r, k < n → RV .f32 (afterS (qs.map fq) n (some 1031798784) (stepsS (qs.map fq) n (some 1031798784) S t) k) r ∧ rab (r - (D k + 1 / 16 * bal n (qq n qs) D k)) ≤ 1 / 80000 := by
      intro k
      by_cases hk : k < n
      · obtain ⟨r, a, b⟩ := next_near h h5 hD hd hk
        exact ⟨r, fun _ => ⟨a, b⟩⟩
      · exact ⟨0, fun x => absurd x hk⟩
    obtain ⟨E, hE⟩ := Classical.axiomOfChoice pick
    refine ⟨E, fun k hk => (hE k hk).1, ?_⟩
    have le : ∀ k, k < n → rab (E k - X k) ≤ (rab (D k - X k) + 1 / 16 * bal n (qq n qs) (fun i => rab (D i - X i)) k) + (1 / 16 * rab (bal n (qq n qs) X k) + 1 / 80000) := by
      intro k hk
      have a := (hE k hk).2
      have b := step_short h h5 (fun i => D i - X i) hk
      rw [bal_diff n (qq n qs) D X k] at a
      change rab (D k - X k + 1 / 16 * bal n (qq n qs) (fun i => D i - X i) k) ≤ rab (D k - X k) + _ at b
      have c := rab_bd (E k - (D k + 1 / 16 * (bal n (qq n qs) (fun i => D i - X i) k + bal n (qq n qs) X k)))
      have d := rab_bd (D k - X k + 1 / 16 * bal n (qq n qs) (fun i => D i - X i) k)
      have e := rab_bd (bal n (qq n qs) X k)
      exact rab_of (by grind) (by grind)
    have all := sm_le (m := n) le
    rw [sm_add, sm_add, sm_add, sm_mul, sm_mul, bal_all] at all
    have ba := bal_abs hT.set
    have cst : sm (fun _ => (1 : Rat) / 80000) n ≤ 5 * (1 / 80000) := by
      have := sm_pre (f := fun _ => (1 : Rat) / 80000) (m := n) (n := 5) (fun _ _ => by decide +kernel) h5
      have e : sm (fun _ => (1 : Rat) / 80000) 5 = 5 * (1 / 80000) := by decide +kernel
      rwa [e] at this
    have mc : ((t + 1 : Nat) : Rat) = (t : Rat) + 1 := by rw [Rat.natCast_add]; rfl
    unfold EB at e1 ⊢
    rw [mc]
    grind
/-- After twenty steps. -/
theorem still_near {n : Nat} {qs : List Nat} (h : QOk n qs) (h5 : n ≤ 5) {X : Nat → Rat} {T : Rat} (hT : Told n (qq n qs) X T) {S : Nat → Option Nat} (hS : ∀ i, i < n → RV .f32 (S i) (if X i < 0 then 0 else X i)) :
    ∃ D : Nat → Rat, (∀ k, k < n → RV .f32 (stepsS (qs.map fq) n (some 1031798784) S 20 k) (D k)) ∧ ∀ k, k < n → rab (D k - X k) ≤ 3 / 1000 := by
  obtain ⟨D, h1, h2⟩ := steps_near h h5 hT hS 20 (Nat.le_refl 20)
  refine ⟨D, h1, fun k hk => ?_⟩
  have := sm_one (f := fun k => rab (D k - X k)) (m := n) (fun i _ => (rab_bd _).2.2) k hk
  have T1 := hT.le
  have T0 := hT.pos
  unfold EB at h2
  rw [show ((20 : Nat) : Rat) = 20 from rfl] at h2
  grind
end Go.Proofs.Ytkaeohlakeliiaa
