/- Contracts of the laws' helpers that choose numbers by bytes: b10Long, b10At. -/
import Derived.Test.YtkgbbagklkffpaaRows
import Derived.Test.YtkgbbagklkffpaaLib
import Derived.Test.YtkgbbagklkffpaaInt
namespace Go.Proofs.Ytkgbbagklkffpaa
open Go.RowKit

/-- The number that a byte chooses, or its index behind the end. -/
def byteAt (bs : List Int) (i n : Int) : Int := if n ≤ 1 then 0 else if h : i.toNat < bs.length then bs[i.toNat] % n else (i * 37 + 11) % n
theorem byteAt_bd (bs : List Int) (i n : Int) (hn : 1 ≤ n) : 0 ≤ byteAt bs i n ∧ byteAt bs i n < n := by
  unfold byteAt
  split
  · omega
  · split
    · exact ⟨Int.emod_nonneg _ (by omega), Int.emod_lt_of_pos _ (by omega)⟩
    · exact ⟨Int.emod_nonneg _ (by omega), Int.emod_lt_of_pos _ (by omega)⟩
theorem byteAt_one {bs : List Int} {i n : Int} (h : n ≤ 1) : byteAt bs i n = 0 := by simp [byteAt, h]
theorem byteAt_in {bs : List Int} {i n : Int} (h : ¬ n ≤ 1) (k : i.toNat < bs.length) : byteAt bs i n = bs[i.toNat] % n := by simp [byteAt, h, k]
theorem byteAt_out {bs : List Int} {i n : Int} (h : ¬ n ≤ 1) (k : ¬ i.toNat < bs.length) : byteAt bs i n = (i * 37 + 11) % n := by simp [byteAt, h, k]

end Go.Proofs.Ytkgbbagklkffpaa
