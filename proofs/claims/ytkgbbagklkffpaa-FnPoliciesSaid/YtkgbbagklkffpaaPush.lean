/- append of one element to a row of the call's own, beside another such row. No program in sight. -/
import Derived.Test.YtkgbbagklkffpaaOwn
import Derived.Maps.AppendAt
namespace Go.Proofs.Ytkgbbagklkffpaa
open Go.RowKit

/-- Two rows that do not share a block. -/
def Twain (u v : Value) : Prop := u.ownBlock = none ∨ u.ownBlock ≠ v.ownBlock
theorem Twain.symm {u v : Value} (h : Twain u v) : Twain v u := by
  rcases h with h | h
  · cases hv : v.ownBlock with
    | none => exact Or.inl hv
    | some g => right; rw [h, hv]; simp
  · exact Or.inr (fun e => h e.symm)
theorem wpList_push2 {P : Program} {ops : Array Oper} {rest : List Oper} {o : Oper} {a : Act} {Q : Exit → Act → World → Prop} {w : World} {E : TypeId} {i : TypeInfo} {z y : Value} {bytes : Nat}
    (hgd : o.guard = none) (s x : Operand) (t : TypeId) (ho : o.op = .call { callee := .builtin .append, args := #[s, x], argTypes := #[t, t] })
    (ht : P.underlying t = some (.slice E)) (hi : P.info? E = some i) (hz : i.zero = some z) (hsz : i.size = 1) (hby : i.bytes = bytes) (hzc : z.cells.size = 1)
    (base : Nat) (v : Value) (xs : List Value) (hs : a.eval s = v) (hx : a.eval x = .slice (some ⟨w.heap.size, 0, none⟩) 1 1)
    (hown : w.ownsRow base E 1 v xs.length xs) (h1 : y.oneCell' = true) (hn : xs.length ≤ 2097152) (hb : bytes ≤ 64) (hbase : base ≤ w.heap.size)
    (base2 : Nat) (E2 : TypeId) (u : Value) (ys : List Value) (hu : w.ownsRow base2 E2 1 u ys.length ys) (hne : Twain u v)
    (h : ∀ v' w', w'.ownsRow base E 1 v' (xs ++ [y]).length (xs ++ [y]) → w'.ownsRow base2 E2 1 u ys.length ys → Twain u v' → Below base w w' → wpList P ops Q rest (a.put o.dst v') w') :
    wpList P ops Q (o :: rest) a (w.alloc (.cells #[y] E)) := by
  have hown' : (w.alloc (.cells #[y] E)).ownsRow base E 1 v xs.length xs := hown.alloc _
  have hu' : (w.alloc (.cells #[y] E)).ownsRow base2 E2 1 u ys.length ys := hu.alloc _
  have hsize : (w.alloc (.cells #[y] E)).heap.size = w.heap.size + 1 := by simp
  have hnb : (xs.length + 1) * bytes ≤ 140737488355328 := by
    have : (xs.length + 1) * bytes ≤ 2097153 * 64 := Nat.mul_le_mul (by omega) hb
    omega
  refine wpList_append_own_at _ hgd s x t ho base E i z 1 bytes ht hi hz hsz hby hzc (by decide) v xs.length xs hs hown' ⟨w.heap.size, 0, none⟩ 1 1 [y] hx rfl ?_ (by simpa using h1) (by simp only [maxLen]; omega) hnb (by omega) ?_
  · exact cell_one_new _ _ _
  · intro v' w' ho' hg _ hblk
    refine h v' w' (by simpa using ho') (hu'.kept hg hne) ?_ ?_
    · rcases hblk with e | e
      · rcases hne with h2 | h2
        · exact Or.inl h2
        · right; rw [e]; exact h2
      · cases hub : u.ownBlock with
        | none => exact Or.inl hub
        | some g =>
          right
          rw [hub, e]
          have := (hu.lt g hub).2
          intro e2
          have := Option.some.inj e2
          omega
    · have hb1 : Below base w (w.alloc (.cells #[y] E)) := (Below.refl base w).alloc hbase _
      exact hb1.grown hg (by omega) (fun k hk => (hown.lt k hk).1)
/-- Two rows that are made empty. -/
theorem twain_made (a b : Nat) (h : a ≠ b) (l c l' c' : Nat) : Twain (.slice (some ⟨a, 0, none⟩) l c) (.slice (some ⟨b, 0, none⟩) l' c') := by
  right; simpa [Value.ownBlock] using h
end Go.Proofs.Ytkgbbagklkffpaa
