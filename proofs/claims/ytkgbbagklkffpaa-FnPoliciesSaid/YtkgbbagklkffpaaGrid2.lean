/- append beside other rows; two rows of floats side by side. No program in sight. -/
import Derived.Test.YtkgbbagklkffpaaPush
namespace Go.Proofs.Ytkgbbagklkffpaa
open Go.RowKit

theorem wpList_pushR {P : Program} {ops : Array Oper} {rest : List Oper} {o : Oper} {a : Act} {Q : Exit → Act → World → Prop} {w : World} {E : TypeId} {i : TypeInfo} {z y : Value} {bytes : Nat}
    (hgd : o.guard = none) (s x : Operand) (t : TypeId) (ho : o.op = .call { callee := .builtin .append, args := #[s, x], argTypes := #[t, t] })
    (ht : P.underlying t = some (.slice E)) (hi : P.info? E = some i) (hz : i.zero = some z) (hsz : i.size = 1) (hby : i.bytes = bytes) (hzc : z.cells.size = 1)
    (base : Nat) (v : Value) (xs : List Value) (hs : a.eval s = v) (hx : a.eval x = .slice (some ⟨w.heap.size, 0, none⟩) 1 1)
    (hown : w.ownsRow base E 1 v xs.length xs) (h1 : y.oneCell' = true) (hn : xs.length ≤ 2097152) (hb : bytes ≤ 64) (hbase : base ≤ w.heap.size)
    (h : ∀ v' w', w'.ownsRow base E 1 v' (xs ++ [y]).length (xs ++ [y]) → w.grownBy w' v.ownBlock → (v'.ownBlock = v.ownBlock ∨ v'.ownBlock = some (w.heap.size + 1)) → Below base w w' → wpList P ops Q rest (a.put o.dst v') w') :
    wpList P ops Q (o :: rest) a (w.alloc (.cells #[y] E)) := by
  have hown' : (w.alloc (.cells #[y] E)).ownsRow base E 1 v xs.length xs := hown.alloc _
  have hsize : (w.alloc (.cells #[y] E)).heap.size = w.heap.size + 1 := by simp
  have hnb : (xs.length + 1) * bytes ≤ 140737488355328 := by
    have : (xs.length + 1) * bytes ≤ 2097153 * 64 := Nat.mul_le_mul (by omega) hb
    omega
  refine wpList_append_own_at _ hgd s x t ho base E i z 1 bytes ht hi hz hsz hby hzc (by decide) v xs.length xs hs hown' ⟨w.heap.size, 0, none⟩ 1 1 [y] hx rfl ?_ (by simpa using h1) (by simp only [maxLen]; omega) hnb (by omega) ?_
  · exact cell_one_new _ _ _
  · intro v' w' ho' hg _ hblk
    refine h v' w' (by simpa using ho') ((World.grownBy_alloc w _ _).trans hg) (by simpa [hsize] using hblk) ?_
    have hb1 : Below base w (w.alloc (.cells #[y] E)) := (Below.refl base w).alloc hbase _
    exact hb1.grown hg (by omega) (fun k hk => (hown.lt k hk).1)
theorem twain_fresh {w : World} {lo : Nat} {E : TypeId} {u v v' : Value} {n : Nat} {xs : List Value} (hu : w.ownsRow lo E 1 u n xs) (h : Twain u v) (hb : v'.ownBlock = v.ownBlock ∨ v'.ownBlock = some (w.heap.size + 1)) : Twain u v' := by
  rcases hb with e | e
  · rcases h with h2 | h2
    · exact Or.inl h2
    · right; rw [e]; exact h2
  · cases hub : u.ownBlock with
    | none => exact Or.inl hub
    | some g =>
      right
      rw [hub, e]
      have := (hu.lt g hub).2
      intro e2
      have := Option.some.inj e2
      omega
theorem slice_of_own {w : World} {lo : Nat} {E : TypeId} {u : Value} {xs : List Value} (h : w.ownsRow lo E 1 u xs.length xs) (hp : 0 < xs.length) : ∃ g cap, u = .slice (some ⟨g, 0, none⟩) xs.length cap ∧ xs.length ≤ cap ∧ cap ≤ maxLen ∧ lo ≤ g ∧ g < w.heap.size := by
  rcases h.2 with ⟨_, h2⟩ | ⟨g, cap, cur, rfl, hb, hg, h3, h4, _⟩
  · omega
  · exact ⟨g, cap, rfl, h3, h4, hb, (Array.getElem?_eq_some_iff.1 hg).1⟩
structure Duo (w : World) (lo : Nat) (u v : Value) (us vs : List Nat) : Prop where
  ru : w.ownsRow lo 24 1 u (us.map (Value.float .f32)).length (us.map (Value.float .f32))
  rv : w.ownsRow lo 24 1 v (vs.map (Value.float .f32)).length (vs.map (Value.float .f32))
  uv : Twain u v
section
variable {w w' : World} {lo : Nat} {u v x : Value} {us vs : List Nat} (h : Duo w lo u v us vs)
include h
theorem Duo.keep (k : Below w.heap.size w w') : Duo w' lo u v us vs := ⟨ownsRow_below h.ru k, ownsRow_below h.rv k, h.uv⟩
theorem Duo.pushU {b : Nat} (ho : w'.ownsRow lo 24 1 x (us.map (Value.float .f32) ++ [Value.float .f32 b]).length (us.map (Value.float .f32) ++ [Value.float .f32 b])) (hg : w.grownBy w' u.ownBlock) (hb : x.ownBlock = u.ownBlock ∨ x.ownBlock = some (w.heap.size + 1)) : Duo w' lo x v (us ++ [b]) vs :=
  ⟨by rw [List.map_append]; exact ho, h.rv.kept hg h.uv.symm, (twain_fresh h.rv h.uv.symm hb).symm⟩
theorem Duo.pushV {b : Nat} (ho : w'.ownsRow lo 24 1 x (vs.map (Value.float .f32) ++ [Value.float .f32 b]).length (vs.map (Value.float .f32) ++ [Value.float .f32 b])) (hg : w.grownBy w' v.ownBlock) (hb : x.ownBlock = v.ownBlock ∨ x.ownBlock = some (w.heap.size + 1)) : Duo w' lo u x us (vs ++ [b]) :=
  ⟨h.ru.kept hg h.uv, by rw [List.map_append]; exact ho, twain_fresh h.ru h.uv hb⟩
end
theorem grown_setAt0 (w : World) (b o : Nat) (u : Value) : w.grownBy (w.setCell ⟨b, o, none⟩ u) (some b) := by
  refine ⟨rfl, rfl, rfl, by simp [World.setCell], fun i _ hne => ?_⟩
  have : b ≠ i := fun e => hne (by rw [e])
  simp [World.setCell, Array.getElem?_modify, this]
theorem Duo.zero {w : World} {lo g c y : Nat} {u : Value} {us : List Nat} (h : Duo w lo u (.slice (some ⟨g, 0, none⟩) 1 c) us [y]) : Duo (w.setCell ⟨g, 0, none⟩ (.float .f32 0)) lo u (.slice (some ⟨g, 0, none⟩) 1 c) us [0] := by
  have hst := h.rv.stored 0 (Value.float .f32 0)
  exact ⟨h.ru.kept (grown_setAt0 w g 0 _) h.uv, hst.1, h.uv⟩
theorem duo_made (w : World) : Duo ((w.alloc (.cells #[] 24)).alloc (.cells #[] 24)) w.heap.size (.slice (some ⟨w.heap.size, 0, none⟩) 0 0) (.slice (some ⟨w.heap.size + 1, 0, none⟩) 0 0) [] [] := by
  refine ⟨?_, ?_, twain_made _ _ (by omega) _ _ _ _⟩
  · exact (World.ownsRow_made w #[] 0 (Nat.le_refl _) (by simp [maxLen]) rfl).alloc _
  · have := World.ownsRow_made (base := w.heap.size) (e := 24) (size := 1) (w.alloc (.cells #[] 24)) #[] 0 (by simp) (by simp [maxLen]) rfl
    simpa using this
end Go.Proofs.Ytkgbbagklkffpaa
