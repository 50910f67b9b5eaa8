/- What laws on numbers need: bits, gaps, equal lists, conversions of finite numbers. -/
import Derived.Test.YtkaeohlakeliiaaRat
import Derived.Test.YtkaeohlakeliiaaFL
import Derived.Test.YtkaeohlakeliiaaSame2
import Derived.Test.YtkaeohlakeliiaaByte
import Derived.Test.YtkaeohlakeliiaaRow
import Derived.Test.YtkaeohlakeliiaaExp2
namespace Go.Proofs.Ytkaeohlakeliiaa
open Go.RowKit

theorem rung_le (mag : Nat) (place : Int) : rungOf FloatKind.f32.format mag place ≤ 2139095040 := by
  unfold rungOf
  split
  · exact Nat.zero_le _
  · exact Nat.le_trans (Nat.min_le_right _ _) (by decide)
theorem w32_lt (d : Ieee.Datum) (h : d.isNaN = false) : FloatKind.f32.format.write d < 4294967296 := by
  have e1 : FloatKind.f32.format.signWeight = 2147483648 := by decide
  have e3 : FloatKind.f32.format.infRung = 2139095040 := by decide
  have key : ∀ neg r, r ≤ 2139095040 → FloatKind.f32.format.word neg r < 4294967296 := by
    intro neg r hr
    unfold Ieee.Format.word
    rw [e1]
    split <;> omega
  cases d with
  | number neg mag place =>
    show FloatKind.f32.format.nearest neg mag place < _
    rw [nearest_rung]
    exact key _ _ (rung_le _ _)
  | infinity neg =>
    show FloatKind.f32.format.word neg FloatKind.f32.format.infRung < _
    rw [e3]; exact key _ _ (Nat.le_refl _)
  | nan neg fr => simp [Ieee.Datum.isNaN] at h
theorem add_lt {x y : Option Nat} {b : Nat} (h : fop .add .f32 x y = some b) : b < 4294967296 := by
  cases x with
  | none => rw [fop_none_left] at h; cases h
  | some p =>
    cases y with
    | none => rw [fop_none_right] at h; cases h
    | some q =>
      have h' : ((FloatKind.f32.format.read p).sum (FloatKind.f32.format.read q)).map FloatKind.f32.format.write = some b := h
      obtain ⟨d, hd, hr⟩ := Option.map_eq_some_iff.1 h'
      rw [← hr]
      exact w32_lt d (sum_nan hd).1
theorem isV_ab {k : FloatKind} {b : Nat} {v : Int} (h : IsV k (some b) v) : ab k b = some b := by
  obtain ⟨c, s, m, i, hc, e, _⟩ := h.read
  cases hc
  unfold ab
  rw [e]; rfl
theorem RV.some {k : FloatKind} {x : Option Nat} {r : Rat} (h : RV k x r) : ∃ b, x = some b ∧ ab k b = some b := by
  obtain ⟨v, hv, _⟩ := h
  obtain ⟨b, rfl, h2⟩ := hv
  exact ⟨b, rfl, isV_ab ⟨b, rfl, h2⟩⟩
/-- A list of numbers made by a rule, all finite. -/
theorem list_rv {L : List (Option Nat)} {n : Nat} {f : Nat → Option Nat} (hL : L = (List.range n).map f) (h : ∀ k, k < n → ∃ r, RV .f32 (f k) r) : finL L = true ∧ (bitsOf L).length = n ∧ ∀ k, k < n → ab .f32 ((bitsOf L).getD k 0) = f k ∧ f k = some ((bitsOf L).getD k 0) := by
  subst hL
  refine ⟨?_, by simp [bitsOf], fun k hk => ?_⟩
  · unfold finL
    rw [List.all_eq_true]
    intro x hx
    obtain ⟨k, hk, rfl⟩ := List.mem_map.1 hx
    obtain ⟨r, hr⟩ := h k (List.mem_range.1 hk)
    exact hr.fin
  · obtain ⟨r, hr⟩ := h k hk
    obtain ⟨b, hb, hb2⟩ := hr.some
    have : (bitsOf ((List.range n).map f)).getD k 0 = b := by
      simp [bitsOf, hk, hb]
    rw [this, hb]
    exact ⟨hb2, rfl⟩
theorem not_lt_of {k : FloatKind} {a b : Option Nat} {A B : Rat} (ha : RV k a A) (hb : RV k b B) (h : B ≤ A) : (ford k a b == some .lt) = false := by
  by_cases e : A = B
  · rw [rv_eq ha hb e]; rfl
  · rw [rv_gt ha hb (by grind)]; rfl
theorem not_gt_of {k : FloatKind} {a b : Option Nat} {A B : Rat} (ha : RV k a A) (hb : RV k b B) (h : A ≤ B) : (ford k a b == some .gt) = false := by
  by_cases e : A = B
  · rw [rv_eq ha hb e]; rfl
  · rw [rv_lt ha hb (by grind)]; rfl
theorem lt_of_rv {k : FloatKind} {a b : Option Nat} {A B : Rat} (ha : RV k a A) (hb : RV k b B) (h : (ford k a b == some .lt) = true) : A < B := by
  by_cases c : B ≤ A
  · rw [not_lt_of ha hb c] at h; cases h
  · grind
/-! ### Gaps -/
def gapX (a b : Option Nat) : Option Nat := if (ford .f64 a b == some .lt) = true then fop .sub .f64 b a else fop .sub .f64 a b
theorem gap_near {a b : Option Nat} {A B : Rat} (ha : RV .f64 a A) (hb : RV .f64 b B) (h1 : -100 ≤ A - B) (h2 : A - B ≤ 100) : ∃ γ N, RV .f64 (gapX a b) γ ∧ 0 ≤ N ∧ (B - A = N ∨ B - A = -N) ∧ γ ≤ N + 1 / 10000000000000 ∧ N ≤ γ + 1 / 10000000000000 := by
  by_cases c : A < B
  · obtain ⟨γ, hγ, -, -, g1, g2⟩ := near64 (wn_sub hb ha) 100 (by grind) (by grind) (by grind)
    refine ⟨γ, B - A, ?_, by grind, Or.inl rfl, ?_, ?_⟩
    · unfold gapX; rw [rv_lt ha hb c]; exact hγ
    · rw [tiny_eq] at *; grind
    · rw [tiny_eq] at *; grind
  · obtain ⟨γ, hγ, -, -, g1, g2⟩ := near64 (wn_sub ha hb) 100 (by grind) (by grind) (by grind)
    have hn : (ford .f64 a b == some .lt) = false := by
      by_cases e : A = B
      · rw [rv_eq ha hb e]; rfl
      · rw [rv_gt ha hb (by grind)]; rfl
    refine ⟨γ, A - B, ?_, by grind, Or.inr (by grind), ?_, ?_⟩
    · unfold gapX; rw [hn]; exact hγ
    · rw [tiny_eq] at *; grind
    · rw [tiny_eq] at *; grind
def cmil : Nat := 4562254508917369340
theorem rv_mil : ∃ r, RV .f64 (some cmil) r ∧ 999 / 1000000 ≤ r ∧ r ≤ 1001 / 1000000 :=
  ⟨_, RV.of (v := fv FloatKind.f64.format cmil) ⟨cmil, rfl, by decide, rfl⟩, by decide +kernel, by decide +kernel⟩
set_option maxHeartbeats 400000 in
theorem b10Gap_any (a b : Nat) (w : World) :
    Calls Try.prog 13 #[.float .f64 a, .float .f64 b] w (FltOk64 (gapX (ab .f64 a) (ab .f64 b)) w) := by
  cases h : (ford .f64 (ab .f64 a) (ab .f64 b) == some .lt)
  · have HM := hid (show gapX (ab .f64 a) (ab .f64 b) = fop .sub .f64 (ab .f64 a) (ab .f64 b) by unfold gapX; rw [h]; rfl)
    go_enter Try.func13, Try.ntmps13
    go_wp2_with (refine upon_float rfl ?_; intro r n hr; go_simp)
    go_ret
    exact ⟨_, rfl, by rw [HM.out]; exact hr, by (repeat (first | (with_reducible assumption) | (with_reducible apply below_refl) | (with_reducible apply below_alloc1) | (with_reducible apply below_drewN1) | (with_reducible apply below_drew1)))⟩
  · have HM := hid (show gapX (ab .f64 a) (ab .f64 b) = fop .sub .f64 (ab .f64 b) (ab .f64 a) by unfold gapX; rw [h]; rfl)
    go_enter Try.func13, Try.ntmps13
    go_wp2_with (refine upon_float rfl ?_; intro r n hr; go_simp)
    go_ret
    exact ⟨_, rfl, by rw [HM.out]; exact hr, by (repeat (first | (with_reducible assumption) | (with_reducible apply below_refl) | (with_reducible apply below_alloc1) | (with_reducible apply below_drewN1) | (with_reducible apply below_drew1)))⟩
theorem b10Gap_at (a b : Nat) {p q M : Option Nat} (ha : ab .f64 a = p) (hb : ab .f64 b = q) (hM : gapX p q = M) (w : World) :
    Calls Try.prog 13 #[.float .f64 a, .float .f64 b] w (FltOk64 M w) := by
  subst ha hb hM; exact b10Gap_any a b w
theorem same_self (x : Option Nat) : sameB x x = true := by simp [sameB]
set_option maxHeartbeats 400000 in
theorem specSame_self (x : Nat) (hx : x < 4294967296) (w : World) :
    Calls Try.prog 19 #[.float .f32 x, .float .f32 x] w fun e w' => e = .returned (.bool true) ∧ Below w.heap.size w w' := by
  have HS := hid (same_self (ab .f32 x))
  go_enter Try.func19, Try.ntmps19
  go_wp2_with (first | (go_at_call 76; (with_reducible refine (l01Same_any x x hx hx _).mono ?_); rw [HS.out]; rintro e w' ⟨rfl, hb⟩; have hB : Below w.heap.size w w' := below_trans (by (repeat (first | (with_reducible assumption) | (with_reducible apply below_refl) | (with_reducible apply below_alloc1) | (with_reducible apply below_drewN1) | (with_reducible apply below_drew1)))) hb; have hC := (bcell hB).1; clear hb))
  go_ret
  exact ⟨rfl, by assumption⟩
set_option maxRecDepth 100000 in
set_option maxHeartbeats 800000 in
theorem b10List_same (v u : Value) (xs : List Nat) (hx : ∀ b ∈ xs, b < 4294967296) (hn : xs.length ≤ 1048576) (w : World) (hv : RowAt w v (xs.map (Value.float .f32))) (hu : RowAt w u (xs.map (Value.float .f32))) :
    Calls Try.prog 16 #[v, u] w fun e w' => e = .returned (.bool true) ∧ Below w.heap.size w w' := by
  obtain ⟨ao, cap, b, off, rfl, hao, hl, hm, hc⟩ := hv
  obtain ⟨ao', cap', b', off', rfl, hao', hl', hm', hc'⟩ := hu
  simp only [List.length_map] at hl hl' hao hao' ⊢
  unfold maxLen at hm hm'
  have HC := hid hc; have HA := hid hao; have HC' := hid hc'; have HA' := hid hao'
  clear hc hao hc' hao'
  have HX := hid hx; clear hx
  go_enter Try.func16, Try.ntmps16
  go_wp2_with fail
  go_loopw [13] (fun i wr => ∃ k : Nat, k ≤ xs.length ∧ i = .int .i64 k ∧ Below w.heap.size w wr) (fun i _ => xs.length - (intOf i).toNat)
  case atStart => exact ⟨0, Nat.zero_le _, rfl, by (repeat (first | (with_reducible assumption) | (with_reducible apply below_refl) | (with_reducible apply below_alloc1) | (with_reducible apply below_drewN1) | (with_reducible apply below_drew1)))⟩
  case round =>
    obtain ⟨k, hk, rfl, hw⟩ := hrel
    by_cases hlt : k < xs.length
    · obtain rfl := HA.out (by omega)
      obtain rfl := HA'.out (by omega)
      have hcell := rowc HC.out hw k hlt
      have hcell2 := rowc HC'.out hw k hlt
      have hbl := World.block_lt_of_cell? wr _ hcell
      have hbl2 := World.block_lt_of_cell? wr _ hcell2
      have hk0 : (0 : Int) ≤ (k : Int) := by omega
      have hltI : (k : Int) < (xs.length : Int) := by omega
      have hx4 := hid (HX.out _ (List.getElem_mem hlt))
      generalize xs[k] = x at hcell hcell2 hx4
      go_wp2_with (first
        | (go_region_held (fun w' => Below wr.heap.size wr w' ∧ ∀ b o, b < wr.heap.size → w'.cell? ⟨b, o, none⟩ = wr.cell? ⟨b, o, none⟩) (first | assumption | exact keep_next ‹_› ‹_› | exact keep_start | exact keep_drew ‹_› | exact keep_of (by (repeat (first | (with_reducible assumption) | (with_reducible apply below_refl) | (with_reducible apply below_alloc1) | (with_reducible apply below_drewN1) | (with_reducible apply below_drew1))))) (first | (go_at_call 19; (with_reducible refine (specSame_self _ hx4.out _).mono ?_); rintro e w' ⟨rfl, hb⟩)) <;> (rename_i hHeld; obtain ⟨hB, hC⟩ := hHeld)))
      go_roundw
      case rel => exact ⟨k + 1, by omega, by go_num, below_trans hw (by assumption)⟩
      case measure => simp [intOf]; omega
    · obtain rfl : k = xs.length := by omega
      go_wp2_with fail
      go_ret
      exact ⟨rfl, by (repeat (first | (with_reducible assumption) | (with_reducible apply below_refl) | (with_reducible apply below_alloc1) | (with_reducible apply below_drewN1) | (with_reducible apply below_drew1)))⟩
theorem det_conv {P : Program} {src dst : TypeId} (hs : (P.underlying src).isSome = true) (hd : P.underlying dst = some (.float .f64)) {x : Nat} {r : Rat} (hx : RV .f32 (ab .f32 x) r) : ∃ b, (∀ w, (convert src dst (.float .f32 x)).run P w = .ok (.float .f64 b) w) ∧ ab .f64 b = wid (ab .f32 x) := by
  obtain ⟨u, hs'⟩ := Option.isSome_iff_exists.1 hs
  obtain ⟨v, hv, _⟩ := hx
  obtain ⟨c, sg, m, e, hc, he, _, _⟩ := hv.read
  have hcx : c = x := (ab_some hc).1
  subst hcx
  have he' : Ieee.single.read c = .number sg m e := he
  obtain ⟨h1, h2, h3⟩ := single_number he'
  have hf := widen_fits sg m e h1 h2
  refine ⟨Ieee.double.write (.number sg m e), fun w => ?_, ?_⟩
  · cases u <;> simp [convert, run_underlying hs', run_underlying hd, Conv.floatToFloat, FloatKind.decode, FloatKind.encode, FloatKind.format, he', hf]
  · rw [hc]
    show ab .f64 _ = some (Ieee.double.write (Ieee.single.read c))
    rw [he']; unfold ab; rw [show (FloatKind.f64.format.read (Ieee.double.write (.number sg m e))).isNaN = false from read_write Ieee.double _ rfl]; rfl
theorem det_op {P : Program} (op : BinOp) {k : FloatKind} {x y b : Nat} (h : fop op k (ab k x) (ab k y) = some b) (T : TypeId) (w : World) : (binOp op T (.float k x) (.float k y)).run P w = .ok (.float k b) w := by
  rw [fop_bits] at h
  exact run_float_arith w op T k x y b h
theorem own_form {w : World} {lo hi : Nat} {E : TypeId} {v : Value} {xs : List Nat} {n : Nat} (h : OwnAt w lo hi E v (xs.map (Value.float .f32))) (hn : xs.length = n) (h1 : 1 ≤ n) : ∃ g cap, v = .slice (some ⟨g, 0, none⟩) n cap ∧ lo ≤ g ∧ g < w.heap.size := by
  obtain ⟨g, cap, e, h2, h3⟩ := h.1.1.form (by rw [List.length_map]; omega)
  rw [List.length_map, hn] at e
  exact ⟨g, cap, e, h2, h3⟩
theorem own_cell {w wr : World} {lo hi : Nat} {E : TypeId} {g n cap : Nat} {xs : List Nat} (h : OwnAt w lo hi E (.slice (some ⟨g, 0, none⟩) n cap) (xs.map (Value.float .f32))) (hn : xs.length = n) (hb : Below w.heap.size w wr) {k : Nat} (hk : k < n) : wr.cell? ⟨g, k, none⟩ = some (.float .f32 (xs.getD k 0)) := by
  subst hn
  have ho := h.owns hb
  rw [List.length_map] at ho
  rw [ho.cellAt k (by omega)]
  simp [hk]
theorem own_lt {w : World} {lo hi : Nat} {E : TypeId} {g n cap : Nat} {xs : List Value} (h : OwnAt w lo hi E (.slice (some ⟨g, 0, none⟩) n cap) xs) : g < w.heap.size := Nat.lt_of_lt_of_le (h.1.2 g rfl) h.2
set_option maxHeartbeats 400000 in
theorem b10Gap_q (a b c : Nat) (hc : gapX (ab .f64 a) (ab .f64 b) = some c) (w : World) :
    Calls Try.prog 13 #[.float .f64 a, .float .f64 b] w fun e w' => e = .returned (.float .f64 c) ∧ ∃ m, w' = w.drewN m := by
  have HC := hid hc; clear hc
  cases h : (ford .f64 (ab .f64 a) (ab .f64 b) == some .lt)
  · have HM := hid (show gapX (ab .f64 a) (ab .f64 b) = fop .sub .f64 (ab .f64 a) (ab .f64 b) by unfold gapX; rw [h]; rfl)
    go_enter Try.func13, Try.ntmps13
    go_wp2_with (refine upon_float rfl ?_; intro r n hr; go_simp)
    go_ret
    have hrc : ab .f64 r = some c := hr.trans (HM.out.symm.trans HC.out)
    rw [(ab_some hrc).1]
    exact ⟨rfl, _, rfl⟩
  · have HM := hid (show gapX (ab .f64 a) (ab .f64 b) = fop .sub .f64 (ab .f64 b) (ab .f64 a) by unfold gapX; rw [h]; rfl)
    go_enter Try.func13, Try.ntmps13
    go_wp2_with (refine upon_float rfl ?_; intro r n hr; go_simp)
    go_ret
    have hrc : ab .f64 r = some c := hr.trans (HM.out.symm.trans HC.out)
    rw [(ab_some hrc).1]
    exact ⟨rfl, _, rfl⟩
end Go.Proofs.Ytkaeohlakeliiaa
