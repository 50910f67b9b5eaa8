/- FnChains: crews: all cases. No program in sight. -/
import Derived.Test.YtkaeohlakeliiaaCrB1
import Derived.Test.YtkaeohlakeliiaaCrB2
import Derived.Test.YtkaeohlakeliiaaCrB3
import Derived.Test.YtkaeohlakeliiaaCrB4
import Derived.Test.YtkaeohlakeliiaaCrB5
import Derived.Test.YtkaeohlakeliiaaCrB6
import Derived.Test.YtkaeohlakeliiaaCrB7
namespace Go.Proofs.Ytkaeohlakeliiaa
open Go.RowKit

theorem crew_told {m c F R : Nat} (m1 : 1 ≤ m) (m8 : m ≤ 8) (c1 : 1 ≤ c) (cm : c ≤ m) (hF : F < 8) (hR : R < 8) : CrewOk m c (some (fq (F + 1))) (some (fq (R + 1))) := by
  have hm : m = 1 ∨ m = 2 ∨ m = 3 ∨ m = 4 ∨ m = 5 ∨ m = 6 ∨ m = 7 ∨ m = 8 := by omega
  have hf : F = 0 ∨ F = 1 ∨ F = 2 ∨ F = 3 ∨ F = 4 ∨ F = 5 ∨ F = 6 ∨ F = 7 := by omega
  rcases hm with rfl | rfl | rfl | rfl | rfl | rfl | rfl | rfl
  · rcases hf with rfl | rfl | rfl | rfl | rfl | rfl | rfl | rfl
    · exact crew_of cr10 (by omega) (Nat.le_refl _) (by omega) hR c1 cm
    · exact crew_of cr11 (by omega) (Nat.le_refl _) (by omega) hR c1 cm
    · exact crew_of cr12 (by omega) (Nat.le_refl _) (by omega) hR c1 cm
    · exact crew_of cr13 (by omega) (Nat.le_refl _) (by omega) hR c1 cm
    · exact crew_of cr14 (by omega) (Nat.le_refl _) (by omega) hR c1 cm
    · exact crew_of cr15 (by omega) (Nat.le_refl _) (by omega) hR c1 cm
    · exact crew_of cr16 (by omega) (Nat.le_refl _) (by omega) hR c1 cm
    · exact crew_of cr17 (by omega) (Nat.le_refl _) (by omega) hR c1 cm
  · rcases hf with rfl | rfl | rfl | rfl | rfl | rfl | rfl | rfl
    · exact crew_of cr20 (by omega) (Nat.le_refl _) (by omega) hR c1 cm
    · exact crew_of cr21 (by omega) (Nat.le_refl _) (by omega) hR c1 cm
    · exact crew_of cr22 (by omega) (Nat.le_refl _) (by omega) hR c1 cm
    · exact crew_of cr23 (by omega) (Nat.le_refl _) (by omega) hR c1 cm
    · exact crew_of cr24 (by omega) (Nat.le_refl _) (by omega) hR c1 cm
    · exact crew_of cr25 (by omega) (Nat.le_refl _) (by omega) hR c1 cm
    · exact crew_of cr26 (by omega) (Nat.le_refl _) (by omega) hR c1 cm
    · exact crew_of cr27 (by omega) (Nat.le_refl _) (by omega) hR c1 cm
  · rcases hf with rfl | rfl | rfl | rfl | rfl | rfl | rfl | rfl
    · exact crew_of cr30 (by omega) (Nat.le_refl _) (by omega) hR c1 cm
    · exact crew_of cr31 (by omega) (Nat.le_refl _) (by omega) hR c1 cm
    · exact crew_of cr32 (by omega) (Nat.le_refl _) (by omega) hR c1 cm
    · exact crew_of cr33 (by omega) (Nat.le_refl _) (by omega) hR c1 cm
    · exact crew_of cr34 (by omega) (Nat.le_refl _) (by omega) hR c1 cm
    · exact crew_of cr35 (by omega) (Nat.le_refl _) (by omega) hR c1 cm
    · exact crew_of cr36 (by omega) (Nat.le_refl _) (by omega) hR c1 cm
    · exact crew_of cr37 (by omega) (Nat.le_refl _) (by omega) hR c1 cm
  · rcases hf with rfl | rfl | rfl | rfl | rfl | rfl | rfl | rfl
    · exact crew_of cr40 (by omega) (Nat.le_refl _) (by omega) hR c1 cm
    · exact crew_of cr41 (by omega) (Nat.le_refl _) (by omega) hR c1 cm
    · exact crew_of cr42 (by omega) (Nat.le_refl _) (by omega) hR c1 cm
    · exact crew_of cr43 (by omega) (Nat.le_refl _) (by omega) hR c1 cm
    · exact crew_of cr44 (by omega) (Nat.le_refl _) (by omega) hR c1 cm
    · exact crew_of cr45 (by omega) (Nat.le_refl _) (by omega) hR c1 cm
    · exact crew_of cr46 (by omega) (Nat.le_refl _) (by omega) hR c1 cm
    · exact crew_of cr47 (by omega) (Nat.le_refl _) (by omega) hR c1 cm
  · rcases hf with rfl | rfl | rfl | rfl | rfl | rfl | rfl | rfl
    · exact crew_of cr50 (by omega) (Nat.le_refl _) (by omega) hR c1 cm
    · exact crew_of cr51 (by omega) (Nat.le_refl _) (by omega) hR c1 cm
    · exact crew_of cr52 (by omega) (Nat.le_refl _) (by omega) hR c1 cm
    · exact crew_of cr53 (by omega) (Nat.le_refl _) (by omega) hR c1 cm
    · exact crew_of cr54 (by omega) (Nat.le_refl _) (by omega) hR c1 cm
    · exact crew_of cr55 (by omega) (Nat.le_refl _) (by omega) hR c1 cm
    · exact crew_of cr56 (by omega) (Nat.le_refl _) (by omega) hR c1 cm
    · exact crew_of cr57 (by omega) (Nat.le_refl _) (by omega) hR c1 cm
  · rcases hf with rfl | rfl | rfl | rfl | rfl | rfl | rfl | rfl
    · exact crew_of cr60 (by omega) (Nat.le_refl _) (by omega) hR c1 cm
    · exact crew_of cr61 (by omega) (Nat.le_refl _) (by omega) hR c1 cm
    · exact crew_of cr62 (by omega) (Nat.le_refl _) (by omega) hR c1 cm
    · exact crew_of cr63 (by omega) (Nat.le_refl _) (by omega) hR c1 cm
    · exact crew_of cr64 (by omega) (Nat.le_refl _) (by omega) hR c1 cm
    · exact crew_of cr65 (by omega) (Nat.le_refl _) (by omega) hR c1 cm
    · exact crew_of cr66 (by omega) (Nat.le_refl _) (by omega) hR c1 cm
    · exact crew_of cr67 (by omega) (Nat.le_refl _) (by omega) hR c1 cm
  · rcases hf with rfl | rfl | rfl | rfl | rfl | rfl | rfl | rfl
    · exact crew_of cr70 (by omega) (Nat.le_refl _) (by omega) hR c1 cm
    · exact crew_of cr71 (by omega) (Nat.le_refl _) (by omega) hR c1 cm
    · exact crew_of cr72 (by omega) (Nat.le_refl _) (by omega) hR c1 cm
    · exact crew_of cr73 (by omega) (Nat.le_refl _) (by omega) hR c1 cm
    · exact crew_of cr74 (by omega) (Nat.le_refl _) (by omega) hR c1 cm
    · exact crew_of cr75 (by omega) (Nat.le_refl _) (by omega) hR c1 cm
    · exact crew_of cr76 (by omega) (Nat.le_refl _) (by omega) hR c1 cm
    · exact crew_of cr77 (by omega) (Nat.le_refl _) (by omega) hR c1 cm
  · rcases hf with rfl | rfl | rfl | rfl | rfl | rfl | rfl | rfl
    · exact crew_of cr80 (by omega) (Nat.le_refl _) (by omega) hR c1 cm
    · exact crew_of cr81 (by omega) (Nat.le_refl _) (by omega) hR c1 cm
    · exact crew_of cr82 (by omega) (Nat.le_refl _) (by omega) hR c1 cm
    · exact crew_of cr83 (by omega) (Nat.le_refl _) (by omega) hR c1 cm
    · exact crew_of cr84 (by omega) (Nat.le_refl _) (by omega) hR c1 cm
    · exact crew_of cr85 (by omega) (Nat.le_refl _) (by omega) hR c1 cm
    · exact crew_of cr86 (by omega) (Nat.le_refl _) (by omega) hR c1 cm
    · exact crew_of cr87 (by omega) (Nat.le_refl _) (by omega) hR c1 cm
end Go.Proofs.Ytkaeohlakeliiaa
