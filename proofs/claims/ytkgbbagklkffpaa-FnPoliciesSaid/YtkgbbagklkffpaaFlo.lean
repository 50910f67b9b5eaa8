/- Floats read up to the NaN's bits: 'ab k b' is none at a NaN, else the bits; the operations on such readings; what the walk does at a float operation. No program in sight. -/
import Derived.WalkKit
import Derived.WalkSpells
import Derived.WalkLawsBesides
import Derived.Deep.Draws
namespace Go.Proofs.Ytkgbbagklkffpaa
open Go.RowKit

/-- The reading of a float's bits: none at a NaN. -/
def ab (k : FloatKind) (b : Nat) : Option Nat := if (k.format.read b).isNaN then none else some b

def fop (op : BinOp) (k : FloatKind) (x y : Option Nat) : Option Nat := x.bind fun a => y.bind fun b => floatBits op k a b

def ford (k : FloatKind) (x y : Option Nat) : Option Ordering := x.bind fun a => y.bind fun b => k.format.order a b

theorem ab_some {k : FloatKind} {b c : Nat} (h : ab k b = some c) : c = b ∧ (k.format.read b).isNaN = false := by
  unfold ab at h
  split at h
  · cases h
  · rename_i hn; cases h; exact ⟨rfl, by simpa using hn⟩
theorem ab_none {k : FloatKind} {b : Nat} (h : ab k b = none) : (k.format.read b).isNaN = true := by
  unfold ab at h
  split at h
  · assumption
  · cases h

theorem read_word (f : Ieee.Format) (neg : Bool) (r : Nat) (h : r ≤ f.infRung) : (f.read (f.word neg r)).isNaN = false := by
  have h1 := f.infRung_lt
  have h2 : f.word neg r % f.signWeight = r := by
    unfold Ieee.Format.word
    cases neg
    · simpa using Nat.mod_eq_of_lt (Nat.lt_of_le_of_lt h h1)
    · simpa using Nat.mod_eq_of_lt (Nat.lt_of_le_of_lt h h1)
  unfold Ieee.Format.read
  simp only [h2]
  by_cases c1 : r < f.binade
  · simp [c1, Ieee.Datum.isNaN]
  · by_cases c2 : r < f.infRung
    · simp [c1, c2, Ieee.Datum.isNaN]
    · have : r = f.infRung := by omega
      rw [if_neg c1, if_neg c2, if_pos this]
      rfl

theorem read_write (f : Ieee.Format) (d : Ieee.Datum) (h : d.isNaN = false) : (f.read (f.write d)).isNaN = false := by
  cases d with
  | number neg mag place =>
    simp only [Ieee.Format.write, Ieee.Format.nearest]
    split
    · exact read_word f _ _ (Nat.zero_le _)
    · exact read_word f _ _ (Nat.min_le_right _ _)
  | infinity neg => exact read_word f _ _ (Nat.le_refl _)
  | nan neg fr => simp [Ieee.Datum.isNaN] at h

theorem sum_nan {a b d : Ieee.Datum} (h : a.sum b = some d) : d.isNaN = false ∧ a.isNaN = false ∧ b.isNaN = false := by
  cases a <;> cases b <;> simp [Ieee.Datum.sum] at h
  all_goals first
    | (obtain ⟨_, rfl⟩ := h; simp [Ieee.Datum.isNaN])
    | (subst h; simp [Ieee.Datum.isNaN])
theorem product_nan {a b d : Ieee.Datum} (h : a.product b = some d) : d.isNaN = false ∧ a.isNaN = false ∧ b.isNaN = false := by
  cases a <;> cases b <;> simp [Ieee.Datum.product] at h
  all_goals first
    | (obtain ⟨_, rfl⟩ := h; simp [Ieee.Datum.isNaN])
    | (subst h; simp [Ieee.Datum.isNaN])
theorem quotient_nan {n : Nat} {a b d : Ieee.Datum} (h : a.quotient n b = some d) : d.isNaN = false ∧ a.isNaN = false ∧ b.isNaN = false := by
  cases a <;> cases b <;> simp only [Ieee.Datum.quotient] at h
  all_goals first
    | (cases h; done)
    | (cases h; simp [Ieee.Datum.isNaN]; done)
    | (split at h
       · split at h
         · cases h
         · cases h; simp [Ieee.Datum.isNaN]
       · cases h; simp [Ieee.Datum.isNaN])
theorem opposite_nan (a : Ieee.Datum) : a.opposite.isNaN = a.isNaN := by cases a <;> rfl

theorem floatBits_nan {op : BinOp} {k : FloatKind} {x y r : Nat} (h : floatBits op k x y = some r) : ab k r = some r ∧ ab k x = some x ∧ ab k y = some y := by
  have fin : ∀ d : Ieee.Datum, d.isNaN = false → ab k (k.format.write d) = some (k.format.write d) := fun d hd => by
    unfold ab; rw [read_write _ _ hd]; simp
  have key : ∀ d : Ieee.Datum, d.isNaN = false → k.format.write d = r → (k.format.read x).isNaN = false → (k.format.read y).isNaN = false → ab k r = some r ∧ ab k x = some x ∧ ab k y = some y := by
    intro d hd hr hx hy
    subst hr
    exact ⟨fin d hd, by unfold ab; rw [hx]; simp, by unfold ab; rw [hy]; simp⟩
  cases op <;> simp only [floatBits] at h
  all_goals first | (cases h; done) | skip
  · obtain ⟨d, hd, hr⟩ := Option.map_eq_some_iff.1 (show ((k.format.read x).sum (k.format.read y)).map k.format.write = some r from h)
    obtain ⟨h1, h2, h3⟩ := sum_nan hd
    exact key d h1 hr h2 h3
  · obtain ⟨d, hd, hr⟩ := Option.map_eq_some_iff.1 (show ((k.format.read x).sum (k.format.read y).opposite).map k.format.write = some r from h)
    obtain ⟨h1, h2, h3⟩ := sum_nan hd
    exact key d h1 hr h2 (by rw [opposite_nan] at h3; exact h3)
  · obtain ⟨d, hd, hr⟩ := Option.map_eq_some_iff.1 (show ((k.format.read x).product (k.format.read y)).map k.format.write = some r from h)
    obtain ⟨h1, h2, h3⟩ := product_nan hd
    exact key d h1 hr h2 h3
  · obtain ⟨d, hd, hr⟩ := Option.map_eq_some_iff.1 (show ((k.format.read x).quotient (k.format.fractionBits + 2) (k.format.read y)).map k.format.write = some r from h)
    obtain ⟨h1, h2, h3⟩ := quotient_nan hd
    exact key d h1 hr h2 h3

theorem ab_far (k : FloatKind) (b : Nat) (h : k.format.infRung < b % k.format.signWeight) : ab k b = none := by
  have hb : k.format.binade ≤ k.format.infRung := by cases k <;> decide
  unfold ab
  rw [if_pos]
  unfold Ieee.Format.read
  simp only
  rw [if_neg (by omega), if_neg (by omega), if_neg (by omega)]
  rfl

/-- The bits that the tape gives where the answer is a NaN are a NaN's. -/
theorem cut_nan (q : Question) (k : FloatKind) (t : Nat) (hq : (∃ x y, q = .nanBits k x y) ∨ (∃ x, q = .nanConv k x) ∨ (∃ m x y, q = .nanMinMax k m x y)) : ab k (q.cut t) = none := by
  have h32 : ab .f32 ((t % 2) * 2 ^ 31 + 0x7f800000 + 1 + (t / 2) % (2 ^ 23 - 1)) = none := by
    refine ab_far _ _ ?_
    rw [show Ieee.Format.signWeight FloatKind.f32.format = 2147483648 from by decide, show Ieee.Format.infRung FloatKind.f32.format = 2139095040 from by decide]
    generalize t / 2 = u
    generalize ht : t % 2 = v
    have : v < 2 := by omega
    clear ht
    simp only [Nat.reducePow, Nat.reduceSub]
    omega
  have h64 : ab .f64 ((t % 2) * 2 ^ 63 + 0x7ff0000000000000 + 1 + (t / 2) % (2 ^ 52 - 1)) = none := by
    refine ab_far _ _ ?_
    rw [show Ieee.Format.signWeight FloatKind.f64.format = 9223372036854775808 from by decide, show Ieee.Format.infRung FloatKind.f64.format = 9218868437227405312 from by decide]
    generalize t / 2 = u
    generalize ht : t % 2 = v
    have : v < 2 := by omega
    clear ht
    simp only [Nat.reducePow, Nat.reduceSub]
    omega
  cases k
  · rcases hq with ⟨x, y, rfl⟩ | ⟨x, rfl⟩ | ⟨m, x, y, rfl⟩ <;> exact h32
  · rcases hq with ⟨x, y, rfl⟩ | ⟨x, rfl⟩ | ⟨m, x, y, rfl⟩ <;> exact h64

theorem fop_bits (op : BinOp) (k : FloatKind) (x y : Nat) : fop op k (ab k x) (ab k y) = floatBits op k x y := by
  cases h : floatBits op k x y with
  | some r =>
    obtain ⟨_, h2, h3⟩ := floatBits_nan h
    simp [fop, h2, h3, h]
  | none =>
    cases hx : ab k x with
    | none => rfl
    | some a =>
      cases hy : ab k y with
      | none => rfl
      | some b => rw [(ab_some hx).1, (ab_some hy).1]; simpa [fop] using h

def isArith (op : BinOp) : Bool := match op with | .add | .sub | .mul | .quo => true | _ => false

section
variable {P : Program}

theorem run_float_any (op : BinOp) (hop : isArith op = true) (T : TypeId) (k : FloatKind) (x y : Nat) (w : World) :
    ∃ r n, (binOp op T (.float k x) (.float k y)).run P w = .ok (.float k r) (w.drewN n) ∧ ab k r = fop op k (ab k x) (ab k y) := by
  rw [fop_bits]
  cases h : floatBits op k x y with
  | some r => exact ⟨r, 0, run_float_arith w op T k x y r h, (floatBits_nan h).1⟩
  | none =>
    refine ⟨(Question.nanBits k x y).cut (w.tape w.drawn (.nanBits k x y)), 1, ?_, ?_⟩
    · unfold floatBits at h
      cases op <;> simp only [isArith] at hop h <;> first | (cases hop; done) | skip
      all_goals simp [binOp, Op.floatArith, h, Question.forced, World.drew_is_drewN]
    · exact cut_nan _ k _ (Or.inl ⟨x, y, rfl⟩)

/-- The walk at '+', '-', '*', '/' on floats. -/
theorem upon_float {o : Oper} {a : Act} {K : Act → World → Prop} {Q : Exit → Act → World → Prop} {op : BinOp} {T : TypeId} {k : FloatKind} {x y : Nat} {w : World} (hop : isArith op = true)
    (h : ∀ r n, ab k r = fop op k (ab k x) (ab k y) → K (a.put o.dst (.float k r)) (w.drewN n)) :
    Oper.upon P o a K Q ((Sem.run P (binOp op T (.float k x) (.float k y)) w).andThen fun v w' => Result.ok (Next.value v) w') := by
  obtain ⟨r, n, hr, hx⟩ := run_float_any (P := P) op hop T k x y w
  rw [hr]
  exact h r n hx

end

@[go_sem] theorem run_store_float {P : Program} (w : World) (a : Addr) (m : Mode) (k : FloatKind) (b : Nat) : (store a (.float k b) m).run P w = stored P w a (.float k b) m := run_store P w a _ m rfl

/-! ### comparisons -/
theorem order_nan {a b : Ieee.Datum} {c : Ordering} (h : a.order b = some c) : a.isNaN = false ∧ b.isNaN = false := by
  cases a <;> cases b <;> simp [Ieee.Datum.order] at h <;> simp [Ieee.Datum.isNaN]

@[go_sem] theorem order_ab (k : FloatKind) (x y : Nat) : k.format.order x y = ford k (ab k x) (ab k y) := by
  cases hx : ab k x with
  | none =>
    cases h : k.format.order x y with
    | none => rfl
    | some c => have := (order_nan h).1; rw [ab_none hx] at this; cases this
  | some a =>
    cases hy : ab k y with
    | none =>
      cases h : k.format.order x y with
      | none => rfl
      | some c => have := (order_nan h).2; rw [ab_none hy] at this; cases this
    | some b => rw [(ab_some hx).1, (ab_some hy).1]; rfl

/-! ### constants, whole numbers -/
@[go_sem] theorem ab_ofInt (k : FloatKind) (n : Int) : ab k (floatOfInt k n) = some (floatOfInt k n) := by
  unfold ab
  rw [show (k.format.read (floatOfInt k n)).isNaN = false from read_write k.format (.number (n < 0) n.natAbs 0) rfl]
  simp
@[go_sem] theorem ab_z32 : ab .f32 0 = some 0 := by decide
@[go_sem] theorem ab_z64 : ab .f64 0 = some 0 := by decide
@[go_sem] theorem ab_one32 : ab .f32 1065353216 = some 1065353216 := by decide
@[go_sem] theorem ab_one64 : ab .f64 4607182418800017408 = some 4607182418800017408 := by decide

@[go_sem] theorem ford_none_left (k : FloatKind) (y : Option Nat) : ford k none y = none := rfl
@[go_sem] theorem ford_none_right (k : FloatKind) (x : Option Nat) : ford k x none = none := by cases x <;> rfl
@[go_sem] theorem fop_none_left (op : BinOp) (k : FloatKind) (y : Option Nat) : fop op k none y = none := rfl
@[go_sem] theorem fop_none_right (op : BinOp) (k : FloatKind) (x : Option Nat) : fop op k x none = none := by cases x <;> rfl

theorem compareOfSelf (n : Int) : compare n n = .eq := by simp [compare, compareOfLessAndEq]
theorem order_self {d : Ieee.Datum} (h : d.isNaN = false) : d.order d = some .eq := by
  cases d with
  | number s m p => simp [Ieee.Datum.order]
  | infinity s => cases s <;> rfl
  | nan s f => simp [Ieee.Datum.isNaN] at h
theorem ford_self {k : FloatKind} {a : Nat} (h : ab k a = some a) : ford k (some a) (some a) = some .eq := by
  show k.format.order a a = some .eq
  exact order_self (ab_some h).2

/-! ### from float32 to float64 -/
def wid (x : Option Nat) : Option Nat := x.map fun b => Ieee.double.write (Ieee.single.read b)

theorem cut_le (way : Ieee.Toward) (neg : Bool) (n drop : Nat) : way.cut neg n drop ≤ n + 1 := by
  unfold Ieee.Toward.cut
  simp only
  have h : n / 1 <<< min drop (n.log2 + 2) ≤ n := Nat.div_le_self _ _
  have : ∀ b : Bool, b.toNat ≤ 1 := by decide
  exact Nat.add_le_add h (this _)

theorem read_word_word (f : Ieee.Format) (neg : Bool) (r : Nat) (h : r < f.infRung) : (f.read (f.word neg r)).isInfinity = false := by
  have h1 := f.infRung_lt
  have h2 : f.word neg r % f.signWeight = r := by
    unfold Ieee.Format.word
    cases neg
    · simpa using Nat.mod_eq_of_lt (Nat.lt_trans h h1)
    · simpa using Nat.mod_eq_of_lt (Nat.lt_trans h h1)
  unfold Ieee.Format.read
  simp only [h2]
  by_cases c1 : r < f.binade
  · simp [c1, Ieee.Datum.isInfinity]
  · simp [c1, h, Ieee.Datum.isInfinity]

theorem widen_fits (neg : Bool) (mag : Nat) (place : Int) (hm : mag < 16777216) (hp : place ≤ 104) : (Ieee.double.read (Ieee.double.write (.number neg mag place))).isInfinity = false := by
  simp only [Ieee.Format.write, Ieee.Format.nearest]
  by_cases h0 : mag = 0
  · rw [if_pos h0]
    exact read_word_word _ _ _ (by decide)
  · rw [if_neg h0]
    refine read_word_word _ _ _ ?_
    have c1 : Ieee.Format.infRung Ieee.double = 9218868437227405312 := by decide
    have c2 : Ieee.Format.binade Ieee.double = 4503599627370496 := by decide
    have c3 : Ieee.Format.leastPlace Ieee.double = -1074 := by decide
    have c4 : Ieee.double.fractionBits = 52 := rfl
    rw [c1, c2, c3, c4]
    have hl : mag.log2 < 24 := (Nat.log2_lt h0).2 hm
    generalize hL : max (place + (mag.log2 : Int) - ((52 : Nat) : Int)) (-1074) = last
    have hcut := cut_le Ieee.Toward.even neg (mag <<< (place - last).toNat) (last - place).toNat
    have hsh : mag <<< (place - last).toNat < 2 ^ 53 := by
      rw [Nat.shiftLeft_eq]
      have hlt : mag < 2 ^ (mag.log2 + 1) := (Nat.log2_lt h0).1 (Nat.lt_succ_self _)
      have hle : mag.log2 + 1 + (place - last).toNat ≤ 53 := by omega
      calc mag * 2 ^ (place - last).toNat < 2 ^ (mag.log2 + 1) * 2 ^ (place - last).toNat := Nat.mul_lt_mul_of_pos_right hlt (Nat.two_pow_pos _)
        _ = 2 ^ (mag.log2 + 1 + (place - last).toNat) := by rw [← Nat.pow_add]
        _ ≤ 2 ^ 53 := Nat.pow_le_pow_right (by decide) hle
    generalize Ieee.Toward.even.cut neg (mag <<< (place - last).toNat) (last - place).toNat = kept at hcut ⊢
    generalize mag <<< (place - last).toNat = sh at hcut hsh
    have hlast : (last - -1074).toNat ≤ 1149 := by omega
    have h53 : (2 : Nat) ^ 53 = 9007199254740992 := by decide
    rw [h53] at hsh
    have hmul : (last - -1074).toNat * 4503599627370496 ≤ 1149 * 4503599627370496 := Nat.mul_le_mul_right _ hlast
    refine Nat.lt_of_le_of_lt (Nat.min_le_left _ _) ?_
    omega

theorem single_number {b : Nat} {neg : Bool} {mag : Nat} {place : Int} (h : Ieee.single.read b = .number neg mag place) : mag < 16777216 ∧ place ≤ 104 ∧ -149 ≤ place := by
  unfold Ieee.Format.read at h
  have c0 : Ieee.Format.signWeight Ieee.single = 2147483648 := by decide
  have c1 : Ieee.Format.infRung Ieee.single = 2139095040 := by decide
  have c2 : Ieee.Format.binade Ieee.single = 8388608 := by decide
  have c3 : Ieee.Format.leastPlace Ieee.single = -149 := by decide
  simp only [c0, c1, c2, c3] at h
  generalize b % 2147483648 = r at h
  split at h
  · cases h; omega
  · split at h
    · cases h; omega
    · split at h <;> cases h

theorem convert_widen {P : Program} (src dst : TypeId) (x : Nat) (w : World) (hs : (P.underlying src).isSome = true) (hd : P.underlying dst = some (.float .f64)) :
    ∃ r n, (convert src dst (.float .f32 x)).run P w = .ok (.float .f64 r) (w.drewN n) ∧ ab .f64 r = wid (ab .f32 x) := by
  obtain ⟨u, hs'⟩ := Option.isSome_iff_exists.1 hs
  cases hx : Ieee.single.read x with
  | nan sg fr =>
    have ha : ab .f32 x = none := by unfold ab; rw [show FloatKind.f32.format.read x = .nan sg fr from hx]; rfl
    refine ⟨(Question.nanConv .f64 x).cut (w.tape w.drawn (.nanConv .f64 x)), 1, ?_, ?_⟩
    · cases u <;> simp [convert, run_underlying hs', run_underlying hd, Conv.floatToFloat, FloatKind.decode, FloatKind.format, hx, Question.forced, World.drew_is_drewN]
    · rw [ha, cut_nan _ .f64 _ (Or.inr (Or.inl ⟨x, rfl⟩))]; rfl
  | infinity sg =>
    have ha : ab .f32 x = some x := by unfold ab; rw [show FloatKind.f32.format.read x = .infinity sg from hx]; rfl
    refine ⟨Ieee.double.write (.infinity sg), 0, ?_, ?_⟩
    · cases u <;> simp [convert, run_underlying hs', run_underlying hd, Conv.floatToFloat, FloatKind.decode, FloatKind.encode, FloatKind.format, hx, World.drewN_zero]
    · rw [ha]
      show ab .f64 _ = some (Ieee.double.write (Ieee.single.read x))
      rw [hx]; unfold ab; rw [show (FloatKind.f64.format.read (Ieee.double.write (.infinity sg))).isNaN = false from read_write Ieee.double _ rfl]; rfl
  | number sg m e =>
    have ha : ab .f32 x = some x := by unfold ab; rw [show FloatKind.f32.format.read x = .number sg m e from hx]; rfl
    obtain ⟨h1, h2, _⟩ := single_number hx
    have hf := widen_fits sg m e h1 h2
    refine ⟨Ieee.double.write (.number sg m e), 0, ?_, ?_⟩
    · cases u <;> simp [convert, run_underlying hs', run_underlying hd, Conv.floatToFloat, FloatKind.decode, FloatKind.encode, FloatKind.format, hx, hf, World.drewN_zero]
    · rw [ha]
      show ab .f64 _ = some (Ieee.double.write (Ieee.single.read x))
      rw [hx]; unfold ab; rw [show (FloatKind.f64.format.read (Ieee.double.write (.number sg m e))).isNaN = false from read_write Ieee.double _ rfl]; rfl

theorem upon_widen {P : Program} {o : Oper} {a : Act} {K : Act → World → Prop} {Q : Exit → Act → World → Prop} {src dst : TypeId} {x : Nat} {w : World} (hs : (P.underlying src).isSome = true) (hd : P.underlying dst = some (.float .f64))
    (h : ∀ r n, ab .f64 r = wid (ab .f32 x) → K (a.put o.dst (.float .f64 r)) (w.drewN n)) :
    Oper.upon P o a K Q ((Sem.run P (convert src dst (.float .f32 x)) w).andThen fun v w' => Result.ok (Next.value v) w') := by
  obtain ⟨r, n, hr, hx⟩ := convert_widen (P := P) src dst x w hs hd
  rw [hr]
  exact h r n hx

end Go.Proofs.Ytkgbbagklkffpaa
