/- Float operations as equations of the walk (the tape's answer written out); append as one step of a region that draws its order. No program in sight. -/
import Derived.Test.YtkgbbagklkffpaaFlo
import Derived.Test.YtkgbbagklkffpaaOwn
import Derived.Deep.AppendLies
import Derived.Deep.RegionLaw
namespace Go.Proofs.Ytkgbbagklkffpaa
open Go.RowKit

def fdr (op : BinOp) (k : FloatKind) (x y : Nat) : Nat := match floatBits op k x y with | some _ => 0 | none => 1
def fres (op : BinOp) (k : FloatKind) (x y : Nat) (w : World) : Nat := match floatBits op k x y with | some r => r | none => (Question.nanBits k x y).cut (w.tape w.drawn (.nanBits k x y))
theorem ab_fres (op : BinOp) (_ : isArith op = true) (k : FloatKind) (x y : Nat) (w : World) : ab k (fres op k x y w) = fop op k (ab k x) (ab k y) := by
  rw [fop_bits]
  unfold fres
  cases h : floatBits op k x y with
  | some r => exact (floatBits_nan h).1
  | none => exact cut_nan _ k _ (Or.inl ⟨x, y, rfl⟩)
theorem run_fres (P : Program) (op : BinOp) (hop : isArith op = true) (T : TypeId) (k : FloatKind) (x y : Nat) (w : World) :
    (binOp op T (.float k x) (.float k y)).run P w = .ok (.float k (fres op k x y w)) (w.drewN (fdr op k x y)) := by
  unfold fres fdr
  cases h : floatBits op k x y with
  | some r => exact run_float_arith w op T k x y r h
  | none =>
    unfold floatBits at h
    cases op <;> simp only [isArith] at hop h <;> first | (cases hop; done) | skip
    all_goals simp [binOp, Op.floatArith, h, Question.forced, World.drew_is_drewN]
/-- What the walk is told of float operations. -/
theorem run_fres4 (P : Program) : (∀ T k x y w, (binOp .add T (.float k x) (.float k y)).run P w = .ok (.float k (fres .add k x y w)) (w.drewN (fdr .add k x y))) ∧ (∀ T k x y w, (binOp .sub T (.float k x) (.float k y)).run P w = .ok (.float k (fres .sub k x y w)) (w.drewN (fdr .sub k x y))) ∧
    (∀ T k x y w, (binOp .mul T (.float k x) (.float k y)).run P w = .ok (.float k (fres .mul k x y w)) (w.drewN (fdr .mul k x y))) ∧ (∀ T k x y w, (binOp .quo T (.float k x) (.float k y)).run P w = .ok (.float k (fres .quo k x y w)) (w.drewN (fdr .quo k x y))) :=
  ⟨fun T k x y w => run_fres P .add rfl T k x y w, fun T k x y w => run_fres P .sub rfl T k x y w, fun T k x y w => run_fres P .mul rfl T k x y w, fun T k x y w => run_fres P .quo rfl T k x y w⟩
theorem ab_fres4 : (∀ k x y w, ab k (fres .add k x y w) = fop .add k (ab k x) (ab k y)) ∧ (∀ k x y w, ab k (fres .sub k x y w) = fop .sub k (ab k x) (ab k y)) ∧ (∀ k x y w, ab k (fres .mul k x y w) = fop .mul k (ab k x) (ab k y)) ∧ (∀ k x y w, ab k (fres .quo k x y w) = fop .quo k (ab k x) (ab k y)) :=
  ⟨fun k x y w => ab_fres .add rfl k x y w, fun k x y w => ab_fres .sub rfl k x y w, fun k x y w => ab_fres .mul rfl k x y w, fun k x y w => ab_fres .quo rfl k x y w⟩

/-- append of one element to a row of the call's own, as one step. -/
theorem step_push {P : Program} {ops : Array Oper} {o : Oper} {a : Act} {K : Act → World → Prop} {Q : Exit → Act → World → Prop} {G : Prop} {w : World} {E : TypeId} {i : TypeInfo} {z y : Value} {bytes : Nat}
    (hgd : o.guard = none) (s x : Operand) (t : TypeId) (ho : o.op = .call { callee := .builtin .append, args := #[s, x], argTypes := #[t, t] })
    (ht : P.underlying t = some (.slice E)) (hi : P.info? E = some i) (hz : i.zero = some z) (hsz : i.size = 1) (hby : i.bytes = bytes) (hzc : z.cells.size = 1)
    (base : Nat) (v : Value) (xs : List Value) (hs : a.eval s = v) (hx : a.eval x = .slice (some ⟨w.heap.size, 0, none⟩) 1 1)
    (hown : w.ownsRow base E 1 v xs.length xs) (h1 : y.oneCell' = true) (hn : xs.length ≤ 1000000) (hb : bytes ≤ 64) (hbase : base ≤ w.heap.size)
    (h : ∀ v' w', w'.ownsRow base E 1 v' (xs ++ [y]).length (xs ++ [y]) → Below base w w' → K (a.put o.dst v') w') :
    if Region.wanted o (yielded ops a.tmps) = true then Oper.wp P o a (w.alloc (.cells #[y] E)) K Q else G := by
  have hown' : (w.alloc (.cells #[y] E)).ownsRow base E 1 v xs.length xs := hown.alloc _
  have hsize : (w.alloc (.cells #[y] E)).heap.size = w.heap.size + 1 := by simp
  have hnb : (xs.length + 1) * bytes ≤ 140737488355328 := by
    have : (xs.length + 1) * bytes ≤ 1000001 * 64 := Nat.mul_le_mul (by omega) hb
    omega
  refine step_append_lies _ hgd s x t ho base E i z 1 bytes ht hi hz hsz hby hzc (by decide) v xs.length xs hs hown' ⟨w.heap.size, 0, none⟩ 1 1 [y] hx rfl ?_ (by simpa using h1) (by decide) (by simp only [maxLen]; omega) hnb (by omega) _ rfl ?_
  · exact cell_one_new _ _ _
  · intro g cap w' ho' hg _ _
    refine h _ w' (by simpa using ho') ?_
    have hb1 : Below base w (w.alloc (.cells #[y] E)) := (Below.refl base w).alloc hbase _
    exact hb1.grown hg (by omega) (fun k hk => (hown.lt k hk).1)
theorem pushed {w : World} {base : Nat} {E : TypeId} {v : Value} {ys : List Nat} {r : Nat} {L : List (Option Nat)} {o : Option Nat} (h : w.ownsRow base E 1 v (ys.map (Value.float .f32) ++ [Value.float .f32 r]).length (ys.map (Value.float .f32) ++ [Value.float .f32 r])) (hx : ys.map (ab .f32) = L) (hr : ab .f32 r = o) :
    ∃ zs : List Nat, zs.map (ab .f32) = L ++ [o] ∧ w.ownsRow base E 1 v (zs.map (Value.float .f32)).length (zs.map (Value.float .f32)) := by
  refine ⟨ys ++ [r], ?_, ?_⟩
  · rw [List.map_append, hx]; simp [hr]
  · rw [List.map_append]; exact h
end Go.Proofs.Ytkgbbagklkffpaa
