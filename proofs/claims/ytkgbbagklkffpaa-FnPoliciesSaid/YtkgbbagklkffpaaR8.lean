/- Contracts of the laws' helpers r8Long, r8At, r8Gap; conversions and operations as equations. -/
import Derived.Test.YtkgbbagklkffpaaByte
import Derived.Test.YtkgbbagklkffpaaPolN
namespace Go.Proofs.Ytkgbbagklkffpaa
open Go.RowKit
set_option linter.unusedVariables false

def fmax64 (x y : Option Nat) : Option Nat :=
  match ford .f64 x y with
  | none => none
  | some .lt => y
  | some .gt => x
  | some .eq => if (x.map fun b => (FloatKind.f64.format.read b).neg) = some true then y else x
def gap8 (x y : Option Nat) : Option Nat := fmax64 (fop .sub .f64 (wid x) (wid y)) (fop .sub .f64 (wid y) (wid x))
/-- The number below n that a byte chooses; behind the end: 0. -/
def at8 (bs : List Int) (i n : Int) : Int := if n ≤ 1 then 0 else if h : i.toNat < bs.length then bs[i.toNat] % n else 0
theorem at8_bd (bs : List Int) (i n : Int) (hn : 1 ≤ n) : 0 ≤ at8 bs i n ∧ at8 bs i n < n := by
  unfold at8
  split
  · omega
  · split
    · exact ⟨Int.emod_nonneg _ (by omega), Int.emod_lt_of_pos _ (by omega)⟩
    · omega
theorem at8_one {bs : List Int} {i n : Int} (h : n ≤ 1) : at8 bs i n = 0 := by simp [at8, h]
theorem at8_in {bs : List Int} {i n : Int} (h : ¬ n ≤ 1) (k : i.toNat < bs.length) : at8 bs i n = bs[i.toNat] % n := by simp [at8, h, k]
theorem at8_out {bs : List Int} {i n : Int} (h : ¬ n ≤ 1) (k : ¬ i.toNat < bs.length) : at8 bs i n = 0 := by simp [at8, h, k]
set_option maxHeartbeats 800000 in
theorem r8At_any (v : Value) (bs : List Int) (i n : Int) (w : World) (hv : RowAt w v (bs.map (Value.int .u8))) (hbs : ∀ b ∈ bs, 0 ≤ b ∧ b ≤ 255) (hi : 0 ≤ i ∧ i ≤ 1000000) (hn : -9223372036854775808 ≤ n ∧ n ≤ 9223372036854775807) :
    Calls Try.prog 6 #[v, .int .i64 i, .int .i64 n] w fun e w' => e = .returned (.int .i64 (at8 bs i n)) ∧ Below w.heap.size w w' := by
  obtain ⟨ao, cap, b, off, rfl, hao, hl, hm, hc⟩ := hv
  simp only [List.length_map] at hao hl ⊢
  unfold maxLen at hm
  have HC := hid hc; clear hc
  have HA := hid hao; clear hao
  have HB := hid hbs; clear hbs
  have WL : IntKind.i64.wrap (bs.length : Int) = (bs.length : Int) := by rw [IntKind.wrap_i64]; omega
  by_cases h1 : n ≤ 1
  · rw [at8_one h1]
    go_enter Try.func6, Try.ntmps6
    go_wp2_with fail
    go_ret
    exact ⟨rfl, by (repeat (first | (with_reducible assumption) | (with_reducible apply below_refl) | (with_reducible apply below_alloc1) | (with_reducible apply below_drewN1) | (with_reducible apply below_drew1)))⟩
  · have hb := at8_bd bs i n (by omega)
    have hz : (n == 0) = false := by simp; omega
    have hnp : 0 < n := by omega
    obtain ⟨i, rfl⟩ := Int.eq_ofNat_of_zero_le hi.1
    by_cases h2 : i < bs.length
    · have e := at8_in (bs := bs) (i := (i : Int)) h1 (by simpa using h2)
      obtain rfl := HA.out (by omega)
      obtain ⟨x, hx⟩ : ∃ x, x = bs[i] := ⟨_, rfl⟩
      have hx2 := HB.out bs[i] (List.getElem_mem h2)
      rw [← hx] at hx2
      have hcell : w.cell? ⟨b, off + i, none⟩ = some (.int .u8 x) := by
        have h := HC.out i (.int .u8 bs[i]) (by simp [h2])
        rw [hx]; exact h
      have e2 : at8 bs (i : Int) n = x % n := by rw [e]; simp [hx]
      rw [e2] at hb ⊢
      clear e e2 hx
      have h2' : ¬ (bs.length : Int) ≤ (i : Int) := by omega
      have h2'' : (i : Int) < (bs.length : Int) := by omega
      go_enter Try.func6, Try.ntmps6
      go_wp2_with fail
      go_ret
      exact ⟨rfl, by (repeat (first | (with_reducible assumption) | (with_reducible apply below_refl) | (with_reducible apply below_alloc1) | (with_reducible apply below_drewN1) | (with_reducible apply below_drew1)))⟩
    · have e := at8_out (bs := bs) (i := (i : Int)) h1 (by simpa using h2)
      rw [e] at hb ⊢
      clear e
      have h2' : (bs.length : Int) ≤ (i : Int) := by omega
      go_enter Try.func6, Try.ntmps6
      go_wp2_with fail
      go_ret
      exact ⟨rfl, by (repeat (first | (with_reducible assumption) | (with_reducible apply below_refl) | (with_reducible apply below_alloc1) | (with_reducible apply below_drewN1) | (with_reducible apply below_drew1)))⟩
set_option maxHeartbeats 400000 in
theorem r8Long_any (va vb : Value) (xs ys : List Int) (w : World) (ha : RowAt w va (xs.map (Value.int .u8))) (hb : RowAt w vb (ys.map (Value.int .u8))) (r : Bool) (hr : (decide (48 < xs.length) || decide (48 < ys.length)) = r) :
    Calls Try.prog 4 #[va, vb] w fun e w' => e = .returned (.bool r) ∧ Below w.heap.size w w' := by
  subst hr
  obtain ⟨ao, cap, b, off, rfl, hao, hl, hm, hc⟩ := ha
  obtain ⟨ao', cap', b', off', rfl, hao', hl', hm', hc'⟩ := hb
  simp only [List.length_map] at hl hl' ⊢
  unfold maxLen at hm hm'
  clear hc hc' hao hao'
  by_cases h1 : 48 < xs.length
  · have h1' : (48 : Int) < (xs.length : Int) := by omega
    go_enter Try.func4, Try.ntmps4
    go_wp2_with fail
    go_ret
    exact ⟨by simp [h1], by (repeat (first | (with_reducible assumption) | (with_reducible apply below_refl) | (with_reducible apply below_alloc1) | (with_reducible apply below_drewN1) | (with_reducible apply below_drew1)))⟩
  · have h1' : ¬ (48 : Int) < (xs.length : Int) := by omega
    by_cases h2 : 48 < ys.length
    · have h2' : (48 : Int) < (ys.length : Int) := by omega
      go_enter Try.func4, Try.ntmps4
      go_wp2_with fail
      go_ret
      exact ⟨by simp [h2], by (repeat (first | (with_reducible assumption) | (with_reducible apply below_refl) | (with_reducible apply below_alloc1) | (with_reducible apply below_drewN1) | (with_reducible apply below_drew1)))⟩
    · have h2' : ¬ (48 : Int) < (ys.length : Int) := by omega
      go_enter Try.func4, Try.ntmps4
      go_wp2_with fail
      go_ret
      exact ⟨by simp [h1, h2], by (repeat (first | (with_reducible assumption) | (with_reducible apply below_refl) | (with_reducible apply below_alloc1) | (with_reducible apply below_drewN1) | (with_reducible apply below_drew1)))⟩
theorem run_max64 {P : Program} (ts : Array TypeId) (t : TypeId) (x y : Nat) (w : World) :
    ∃ r n, (Builtin.max_ ts t #[.float .f64 x, .float .f64 y]).run P w = .ok (.float .f64 r) (w.drewN n) ∧ ab .f64 r = fmax64 (ab .f64 x) (ab .f64 y) := by
  have ho := order_ab .f64 x y
  unfold fmax64
  rw [← ho]
  cases h : FloatKind.f64.format.order x y with
  | none =>
    refine ⟨(Question.nanMinMax .f64 true x y).cut (w.tape w.drawn (.nanMinMax .f64 true x y)), 1, ?_, ?_⟩
    · simp [Builtin.max_, Builtin.max2, h, Question.forced, World.drew_is_drewN]
    · exact cut_nan _ .f64 _ (Or.inr (Or.inr ⟨_, _, _, rfl⟩))
  | some c =>
    have hn := order_nan (show (FloatKind.f64.format.read x).order (FloatKind.f64.format.read y) = some c from h)
    have hx : ab .f64 x = some x := by unfold ab; rw [hn.1]; rfl
    cases c
    · exact ⟨y, 0, by simp [Builtin.max_, Builtin.max2, h, World.drewN_zero], rfl⟩
    · refine ⟨if (FloatKind.f64.decode x).neg then y else x, 0, by simp [Builtin.max_, Builtin.max2, h, World.drewN_zero], ?_⟩
      rw [hx]
      simp only [Option.map_some]
      show ab .f64 (if (FloatKind.f64.format.read x).neg = true then y else x) = _
      by_cases hb : (FloatKind.f64.format.read x).neg = true <;> simp [hx, hb]
    · exact ⟨x, 0, by simp [Builtin.max_, Builtin.max2, h, World.drewN_zero], rfl⟩
theorem upon_max64 {P : Program} {o : Oper} {a : Go.Act} {K : Go.Act → World → Prop} {Q : Exit → Go.Act → World → Prop} {ts : Array TypeId} {t : TypeId} {x y : Nat} {w : World}
    (h : ∀ r n, ab .f64 r = fmax64 (ab .f64 x) (ab .f64 y) → K (a.put o.dst (.float .f64 r)) (w.drewN n)) :
    Oper.upon P o a K Q ((Sem.run P (Builtin.max_ ts t #[.float .f64 x, .float .f64 y]) w).andThen fun v w' => Result.ok (Next.value v) w') := by
  obtain ⟨r, n, hr, hx⟩ := run_max64 (P := P) ts t x y w
  rw [hr]
  exact h r n hx
set_option maxRecDepth 100000 in
set_option maxHeartbeats 800000 in
theorem r8Gap_any (a b : Nat) (w : World) :
    Calls Try.prog 18 #[.float .f32 a, .float .f32 b] w (FltOk64 (gap8 (ab .f32 a) (ab .f32 b)) w) := by
  go_enter Try.func18, Try.ntmps18
  go_wp2_with (first
    | (refine upon_widen (by kernel_rfl) Try.underlying34 ?_; intro r n hr; go_simp)
    | (refine upon_float rfl ?_; intro r n hr; go_simp)
    | (refine upon_max64 ?_; intro r n hr; go_simp))
  go_ret
  exact ⟨_, rfl, by simp only [*, gap8], by (repeat (first | (with_reducible assumption) | (with_reducible apply below_refl) | (with_reducible apply below_alloc1) | (with_reducible apply below_drewN1) | (with_reducible apply below_drew1)))⟩
theorem r8Gap_q (a b : Nat) {M : Option Nat} (hM : gap8 (ab .f32 a) (ab .f32 b) = M) (w : World) :
    Calls Try.prog 18 #[.float .f32 a, .float .f32 b] w (FltOk64 M w) := hM ▸ r8Gap_any a b w
set_option maxRecDepth 100000 in
set_option maxHeartbeats 800000 in
theorem r8Gap_det (a b c : Nat) (hc : gap8 (ab .f32 a) (ab .f32 b) = some c) (w : World) :
    Calls Try.prog 18 #[.float .f32 a, .float .f32 b] w fun e w' => e = .returned (.float .f64 c) ∧ ∃ m, w' = w.drewN m := by
  have HC := hid hc; clear hc
  go_enter Try.func18, Try.ntmps18
  go_wp2_with (first
    | (refine upon_widen (by kernel_rfl) Try.underlying34 ?_; intro r n hr; go_simp)
    | (refine upon_float rfl ?_; intro r n hr; go_simp)
    | (refine upon_max64 ?_; intro r n hr; go_simp))
  go_ret
  have hrc : ab .f64 r = gap8 (ab .f32 a) (ab .f32 b) := by simp only [*, gap8]
  rw [(ab_some (hrc.trans HC.out)).1]
  exact ⟨rfl, _, rfl⟩
theorem det_conv {P : Program} {src dst : TypeId} (hs : (P.underlying src).isSome = true) (hd : P.underlying dst = some (.float .f64)) {x : Nat} {r : Rat} (hx : RV .f32 (ab .f32 x) r) : ∃ b, (∀ w, (convert src dst (.float .f32 x)).run P w = .ok (.float .f64 b) w) ∧ ab .f64 b = wid (ab .f32 x) := by
  obtain ⟨u, hs'⟩ := Option.isSome_iff_exists.1 hs
  obtain ⟨v, hv, _⟩ := hx
  obtain ⟨c, sg, m, e, hc, he, _, _⟩ := hv.read
  have hcx : c = x := (ab_some hc).1
  subst hcx
  have he' : Ieee.single.read c = .number sg m e := he
  obtain ⟨h1, h2, h3⟩ := single_number he'
  have hf := widen_fits sg m e h1 h2
  refine ⟨Ieee.double.write (.number sg m e), fun w => ?_, ?_⟩
  · cases u <;> simp [convert, run_underlying hs', run_underlying hd, Conv.floatToFloat, FloatKind.decode, FloatKind.encode, FloatKind.format, he', hf]
  · rw [hc]
    show ab .f64 _ = some (Ieee.double.write (Ieee.single.read c))
    rw [he']; unfold ab; rw [show (FloatKind.f64.format.read (Ieee.double.write (.number sg m e))).isNaN = false from read_write Ieee.double _ rfl]; rfl
theorem det_op {P : Program} (op : BinOp) {k : FloatKind} {x y b : Nat} (h : fop op k (ab k x) (ab k y) = some b) (T : TypeId) (w : World) : (binOp op T (.float k x) (.float k y)).run P w = .ok (.float k b) w := by
  rw [fop_bits] at h
  exact run_float_arith w op T k x y b h
end Go.Proofs.Ytkgbbagklkffpaa
