/- spec.l04Balance. -/
import Derived.Test.YtkaeohlakeliiaaBuild
import Derived.Test.YtkaeohlakeliiaaGrow
import Derived.Laws.IdiomCopy
import Derived.Test.YtkaeohlakeliiaaChain
import Derived.Test.YtkaeohlakeliiaaGrid
namespace Go.Proofs.Ytkaeohlakeliiaa
open Go.RowKit

/-! ## BalSpec -/
theorem at_push {ys : List Nat} {f : Nat → Option Nat} {r : Nat} (h : ∀ j (hj : j < ys.length), ab .f32 ys[j] = f j) (hr : ab .f32 r = f ys.length) : ∀ j (hj : j < (ys ++ [r]).length), ab .f32 (ys ++ [r])[j] = f j := by
  intro j hj
  by_cases e : j < ys.length
  · rw [List.getElem_append_left e]; exact h j e
  · have : j = ys.length := by simp at hj; omega
    subst this
    rw [List.getElem_concat_length]
    · exact hr
    · rfl

/-! ## Rep -/
theorem own_setCells {E : TypeId} {lo g cap : Nat} : ∀ (vs : List Value) (o : Nat) (w : World) (n : Nat) (xs : List Value), o + vs.length ≤ xs.length → w.ownsRow lo E 1 (.slice (some ⟨g, 0, none⟩) n cap) n xs →
    (w.setCells g o vs).ownsRow lo E 1 (.slice (some ⟨g, 0, none⟩) n cap) n (xs.take o ++ vs ++ xs.drop (o + vs.length)) ∧ w.grownBy (w.setCells g o vs) (some g)
  | [], o, w, n, xs, _, h => by
    refine ⟨?_, ?_⟩
    · simpa [World.setCells] using h
    · exact ⟨rfl, rfl, rfl, Nat.le_refl _, fun _ _ _ => rfl⟩
  | v :: r, o, w, n, xs, hl, h => by
    have hst := h.stored o v
    simp only [List.length_cons] at hl
    obtain ⟨h1, h2⟩ := own_setCells r (o + 1) (w.setCell ⟨g, o, none⟩ v) n (xs.set o v) (by rw [List.length_set]; omega) hst.1
    refine ⟨?_, hst.2.trans h2⟩
    show ((w.setCell ⟨g, o, none⟩ v).setCells g (o + 1) r).ownsRow _ _ _ _ _ _
    have e : (xs.set o v).take (o + 1) ++ r ++ (xs.set o v).drop (o + 1 + r.length) = xs.take o ++ (v :: r) ++ xs.drop (o + (v :: r).length) := by
      apply List.ext_getElem?
      intro j
      simp only [List.getElem?_append, List.getElem?_take, List.getElem?_drop, List.getElem?_set, List.length_append, List.length_take, List.length_set, List.length_cons, List.getElem?_cons]
      by_cases c1 : j < o
      · simp [show j < min (o + 1) xs.length + r.length by omega, show j < min (o + 1) xs.length by omega, show j < min o xs.length + (r.length + 1) by omega, show j < min o xs.length by omega, c1, show j < o + 1 by omega, show ¬ o = j by omega]
      · by_cases c2 : j = o
        · subst c2
          simp [show j < min (j + 1) xs.length + r.length by omega, show j < min (j + 1) xs.length by omega, show j < min j xs.length + (r.length + 1) by omega, show ¬ j < min j xs.length by omega, show j < xs.length by omega, show j - min j xs.length = 0 by omega]
        · by_cases c3 : j < o + 1 + r.length
          · simp [show j < min (o + 1) xs.length + r.length by omega, show ¬ j < min (o + 1) xs.length by omega, show j < min o xs.length + (r.length + 1) by omega, show ¬ j < min o xs.length by omega, show ¬ j - min o xs.length = 0 by omega, show j - min (o + 1) xs.length = j - min o xs.length - 1 by omega]
          · simp [show ¬ j < min (o + 1) xs.length + r.length by omega, show ¬ j < min o xs.length + (r.length + 1) by omega, show o + 1 + r.length + (j - (min (o + 1) xs.length + r.length)) = o + (r.length + 1) + (j - (min o xs.length + (r.length + 1))) by omega, show ¬ o = o + (r.length + 1) + (j - (min o xs.length + (r.length + 1))) by omega]
    rw [← e]
    exact h1
set_option maxRecDepth 100000 in
set_option maxHeartbeats 1600000 in
theorem mul64_any (m : Nat) (h1 : 2 ≤ m) (h9 : m ≤ 9) (w : World) :
    Calls Try.prog 132 #[.int .u64 1, .int .u64 m] w fun e w' => e = .returned (.tuple #[.int .u64 0, .int .u64 m]) ∧ w' = w := by
  have hm : m = 2 ∨ m = 3 ∨ m = 4 ∨ m = 5 ∨ m = 6 ∨ m = 7 ∨ m = 8 ∨ m = 9 := by omega
  rcases hm with rfl | rfl | rfl | rfl | rfl | rfl | rfl | rfl
  all_goals
    clear h1 h9
    go_enter Try.func132, Try.ntmps132
    go_wp2_with fail
    go_ret2
    exact ⟨rfl, rfl⟩
set_option maxRecDepth 100000 in
set_option maxHeartbeats 800000 in
theorem mul_any (m : Nat) (h1 : 2 ≤ m) (h9 : m ≤ 9) (w : World) :
    Calls Try.prog 125 #[.int .u64 1, .int .u64 m] w fun e w' => e = .returned (.tuple #[.int .u64 0, .int .u64 m]) ∧ w' = w := by
  go_enter Try.func125, Try.ntmps125
  go_wp2_with (go_at_call 132; refine (mul64_any _ h1 h9 _).mono ?_; rintro e w' ⟨rfl, rfl⟩)
  go_ret2
  exact ⟨rfl, rfl⟩
theorem below_cells {B : Nat} {a : World} (b : Nat) (hb : B ≤ b) : ∀ (vs : List Value) (o : Nat) {w : World}, Below B a w → Below B a (w.setCells b o vs)
  | [], _, _, h => h
  | v :: r, o, _, h => below_cells b hb r (o + 1) (h.setCell (p := ⟨b, o, none⟩) hb v)
theorem upon_copyOwn {P : Program} {o : Oper} {a : Act} {K : Act → World → Prop} {Q : Exit → Act → World → Prop} {w : World} {E T ty : TypeId} {lo G m cap : Nat} {xs : List Value} (cs : List Value) {k dLen dCap sLen sCap : Nat} {p : Addr}
    (hu : P.underlying T = some (.slice E)) (hs : (P.info? E).map (·.size) = some 1) (how : w.ownsRow lo E 1 (.slice (some ⟨G, 0, none⟩) m cap) m xs) (hn : cs.length = Nat.min sLen dLen) (hfit : k + cs.length ≤ m)
    (hsrc : ∀ j v, cs[j]? = some v → w.cell? (p.add j) = some v) (h1 : ∀ v ∈ cs, v.oneCell' = true)
    (h : ∀ w', w'.ownsRow lo E 1 (.slice (some ⟨G, 0, none⟩) m cap) m (xs.take k ++ cs ++ xs.drop (k + cs.length)) → w.grownBy w' (some G) → K (a.put o.dst (goInt cs.length)) w') :
    Oper.upon P o a K Q ((Sem.run P (Builtin.copy_ #[T, T] ty #[.slice (some ⟨G, k, none⟩) dLen dCap, .slice (some p) sLen sCap]) w).andThen fun v w' => Result.ok (Next.value v) w') := by
  have hlen : xs.length = m := by simpa using how.1
  rw [run_copy_cells (P := P) w T T ty E G k dLen dCap p sLen sCap cs hu hs hn hsrc (fun j hj => by rw [how.cellAt (k + j) (by omega), List.getElem?_eq_getElem (by omega)]; rfl) (fun j _ => how.frozenAt (k + j)) h1]
  have := own_setCells cs k w m xs (by omega) how
  exact h _ this.1 this.2
theorem step_copyOwn {P : Program} {ops : Array Oper} {o : Oper} {a : Act} {K : Act → World → Prop} {Q : Exit → Act → World → Prop} {H : Prop} {w : World} {E T : TypeId} {lo G m cap : Nat} {xs : List Value} (hgd : o.guard = none) (d s : Operand)
    (ho : o.op = .call { callee := .builtin .copy, args := #[d, s], argTypes := #[T, T] }) (cs : List Value) {k dLen dCap sLen sCap : Nat} {p : Addr} (hd : a.eval d = .slice (some ⟨G, k, none⟩) dLen dCap) (hsv : a.eval s = .slice (some p) sLen sCap)
    (hu : P.underlying T = some (.slice E)) (hs : (P.info? E).map (·.size) = some 1) (how : w.ownsRow lo E 1 (.slice (some ⟨G, 0, none⟩) m cap) m xs) (hn : cs.length = Nat.min sLen dLen) (hfit : k + cs.length ≤ m)
    (hsrc : ∀ j v, cs[j]? = some v → w.cell? (p.add j) = some v) (h1 : ∀ v ∈ cs, v.oneCell' = true)
    (h : ∀ w', w'.ownsRow lo E 1 (.slice (some ⟨G, 0, none⟩) m cap) m (xs.take k ++ cs ++ xs.drop (k + cs.length)) → w.grownBy w' (some G) → K (a.put o.dst (goInt cs.length)) w') :
    if Region.wanted o (yielded ops a.tmps) = true then Oper.wp P o a w K Q else H := by
  have hw : Region.wanted o (yielded ops a.tmps) = true := by simp [Region.wanted, hgd]
  rw [if_pos hw]
  have := upon_copyOwn (o := o) (a := a) (K := K) (Q := Q) (ty := o.type) cs (dCap := dCap) (sCap := sCap) hu hs how hn hfit hsrc h1 h
  unfold Oper.wp execOp
  simp only [ho, resolve, invoke, builtin, Sem.run_bind, Sem.run_pure, Result.andThen_ok, List.map_toArray, List.map_cons, List.map_nil, hd, hsv]
  exact this
theorem src_one {w : World} {p : Addr} {u : Value} (h : w.cell? p = some u) : ∀ (j : Nat) (v : Value), [u][j]? = some v → w.cell? (p.add j) = some v := by
  intro j v hj
  cases j with
  | zero =>
    simp at hj
    subst hj
    simpa [Addr.add] using h
  | succ j => simp at hj
theorem below_cell {w w' : World} {p : Addr} {u : Value} (h : w.cell? p = some u) (hb : Below w.heap.size w w') : w'.cell? p = some u := by
  rw [hb.cell (World.block_lt_of_cell? w _ h)]; exact h
theorem below_grown {w1 w w' : World} {B b : Nat} (h : Below B w1 w) (hg : w.grownBy w' (some b)) (hB : B ≤ w.heap.size) (hb : B ≤ b) : Below B w1 w' := h.grown hg hB (fun k hk => by
  have := Option.some.inj hk
  omega)
/-- The first k of m numbers are filled. -/
def filled (x m k : Nat) : List Value := List.replicate k (Value.float .f32 x) ++ List.replicate (m - k) (Value.float .f32 0)
theorem filled_len {x m k : Nat} (h : k ≤ m) : (filled x m k).length = m := by simp [filled]; omega
theorem filled_next {x m k c : Nat} (h : k + c ≤ m) : (filled x m k).take k ++ List.replicate c (Value.float .f32 x) ++ (filled x m k).drop (k + c) = filled x m (k + c) := by
  unfold filled
  rw [List.take_left' (by simp), List.drop_append, List.drop_eq_nil_of_le (by simp), List.nil_append, List.drop_replicate, List.length_replicate, List.replicate_append_replicate, show m - k - (k + c - k) = m - (k + c) by omega]
theorem filled_at {x m k j : Nat} (h : j < k) : (filled x m k)[j]? = some (Value.float .f32 x) := by
  unfold filled
  rw [List.getElem?_append_left (by simpa using h)]
  simp [h]
set_option maxRecDepth 100000 in
set_option maxHeartbeats 1600000 in
theorem repeat_any (v : Value) (x m : Nat) (h1 : 2 ≤ m) (h9 : m ≤ 9) (w : World) (hv : RowAt w v ([x].map (Value.float .f32))) :
    Calls Try.prog 91 #[v, .int .i64 m] w (RowOk 27 ((List.replicate m x).map (Value.float .f32)) w) := by
  obtain ⟨i0, hi, hz0, hz1, hz2⟩ := info_parts (P := Try.prog) (e := 27) (z := Value.float .f32 0) (size := 1) (bytes := 4) (by kernel_rfl)
  obtain ⟨ao, cap, b, off, rfl, hao, hl, hm, hc⟩ := hv
  simp only [List.length_map, List.length_cons, List.length_nil] at hao hl ⊢
  unfold maxLen at hm
  obtain rfl := hao (by omega)
  have hcell := hc 0 (.float .f32 x) rfl
  rw [Nat.add_zero] at hcell
  have HC := hid hcell
  clear hc hao hcell
  have W1 : IntKind.u64.wrap (m : Int) = (m : Int) := by rw [IntKind.wrap_u64]; omega
  have W2 : IntKind.i64.wrap (m : Int) = (m : Int) := by rw [IntKind.wrap_i64]; omega
  have g1 : ¬ (m : Int) < 0 := by omega
  have g2 : ¬ (9223372036854775807 : Int) < (m : Int) := by omega
  go_enter Try.func91, Try.ntmps91
  go_wp2_with (first
    | (go_at_call 125; refine (mul_any m h1 h9 _).mono ?_; rintro e w' ⟨rfl, hww⟩; rw [hww]; clear hww)
    | (at_make; refine wpList_make_full _ rfl _ _ 25 rfl w.heap.size 27 i0 (Value.float .f32 0) 1 Try.underlying25 hi hz0 hz1 _ _ _ _ m rfl rfl rfl rfl (by rw [hz2]; omega) (by simp only [maxLen]; omega) (Nat.le_refl _) ?_; intro w1 hown hgrow; simp only [Nat.mul_one] at hown; rw [show (Value.float .f32 0).cells = #[Value.float .f32 0] from rfl, toList_madeCells_one] at hown; have HOWN := hid (show w1.ownsRow w.heap.size 27 1 (.slice (some ⟨w.heap.size, 0, none⟩) m m) m (filled x m 0) from (by unfold filled; simpa using hown)); have hb1 : Below w.heap.size w w1 := wrote_below (u := .slice none 0 0) hgrow (by simp [Value.ownBlock]) (Nat.le_refl _); have HS := hid (src_one (below_cell HC.out hb1)); clear hown hgrow)
    | (refine upon_copyOwn [.float .f32 x] Try.underlying25 (by kernel_rfl) HOWN.out (Nat.min_eq_left (show 1 ≤ m by omega)).symm (show 0 + 1 ≤ m by omega) HS.out (by simp [Value.oneCell']) ?_; intro w2 hown2 hgr2; have HOWN2 := hid hown2; have hb2 : Below w.heap.size w w2 := below_grown hb1 hgr2 hb1.size (Nat.le_refl _); clear hown2 hgr2; rw [show goInt ([Value.float .f32 x] : List Value).length = .int .i64 1 from rfl]; go_simp))
  go_loopw [8] (fun i wr => ∃ k : Nat, 1 ≤ k ∧ k ≤ m ∧ i = .int .i64 k ∧ Hid (wr.ownsRow w.heap.size 27 1 (.slice (some ⟨w.heap.size, 0, none⟩) m m) m (filled x m k)) ∧ Below w.heap.size w wr) (fun i _ => m - (intOf i).toNat)
  case atStart => exact ⟨1, Nat.le_refl _, by omega, rfl, hid (by have h := HOWN2.out; rw [show ([Value.float .f32 x] : List Value) = List.replicate 1 (Value.float .f32 x) from rfl, List.length_replicate] at h; have e := filled_next (x := x) (m := m) (k := 0) (c := 1) (by omega); rw [e] at h; exact h), hb2⟩
  case round =>
    obtain ⟨k, hk1, hkm, rfl, ho, hb⟩ := hrel
    by_cases hlt : k < m
    · have hkI : (k : Int) < (m : Int) := by omega
      have hkz : (0 : Int) ≤ (k : Int) := by omega
      go_wp2_with fail
      have W3 : IntKind.i64.wrap (m : Int) = (m : Int) := by rw [IntKind.wrap_i64]; omega
      have hne : ¬ m = k := by omega
      obtain ⟨c, hc⟩ : ∃ c, c = Nat.min k (m - k) := ⟨_, rfl⟩
      have hc1 : 1 ≤ c ∧ k + c ≤ m ∧ c ≤ k := by
        have hc' : c = min k (m - k) := hc
        omega
      have W4 : IntKind.i64.wrap ((k : Int) + (c : Int)) = (k : Int) + (c : Int) := by rw [IntKind.wrap_i64]; omega
      have HCE := hid (show (List.replicate c (Value.float .f32 x)).length = Nat.min k (m - k) by rw [List.length_replicate, hc])
      have HCO := hid (show (List.replicate c (Value.float .f32 x)).length = c from List.length_replicate)
      have HSRC := hid (show ∀ (j : Nat) (v : Value), (List.replicate c (Value.float .f32 x))[j]? = some v → wr.drew.cell? ((⟨w.heap.size, 0, none⟩ : Addr).add j) = some v from fun j v hj => by
        have hjc : j < c := by simpa using (List.getElem?_eq_some_iff.1 hj).1
        rw [List.getElem?_replicate, if_pos hjc] at hj
        have e : (⟨w.heap.size, 0, none⟩ : Addr).add j = ⟨w.heap.size, j, none⟩ := by unfold Addr.add; split <;> simp_all
        rw [e]
        show wr.cell? _ = _
        rw [ho.out.cellAt j (by omega), filled_at (by omega)]
        exact hj)
      have HFIT := hid (show k + (List.replicate c (Value.float .f32 x)).length ≤ m by rw [List.length_replicate]; omega)
      have HONE := hid (show ∀ v ∈ List.replicate c (Value.float .f32 x), v.oneCell' = true from fun v hv => by
        rw [List.eq_of_mem_replicate hv]; rfl)
      clear hc
      go_region_law (first
        | (refine step_copyOwn rfl _ _ rfl (List.replicate c (Value.float .f32 x)) (by simp [Act.eval, Act.put]; rfl) (by simp [Act.eval, Act.put]; rfl) Try.underlying25 (by kernel_rfl) (ownsRow_below ho.out (by (repeat (first | (with_reducible assumption) | (with_reducible apply below_refl) | (with_reducible apply below_alloc1) | (with_reducible apply below_drewN1) | (with_reducible apply below_drew1))))) HCE.out HFIT.out HSRC.out HONE.out ?_; intro w3 hown3 hgr3; rw [show goInt (List.replicate c (Value.float .f32 x)).length = .int .i64 (c : Int) by (rw [HCO.out]; rfl)]; have HOWN3 := hid hown3; have hb3 : Below w.heap.size w w3 := below_grown (below_trans hb (below_drew _)) hgr3 (below_trans hb (below_drew _)).size (Nat.le_refl _); clear hown3 hgr3))
      go_simp
      go_roundw
      case rel =>
        refine ⟨_, _, _, _, _, _, _, _, _, _, _, _, _, _, ?_, rfl⟩
        refine ⟨k + c, by omega, hc1.2.1, by go_num, hid ?_, hb3⟩
        have h := HOWN3.out
        rw [HCO.out, filled_next hc1.2.1] at h
        exact h
      case measure => simp [intOf]; omega
    · obtain rfl : k = m := by omega
      go_wp2_with fail
      go_ret
      refine ⟨_, rfl, ?_, hb⟩
      have h := ho.out
      unfold filled at h
      rw [Nat.sub_self, List.replicate_zero, List.append_nil] at h
      simpa using h

/-! ## BalImpl -/
def balOf (rs : List Nat) (s : Int) : Option (List (Option Nat)) := if chainB rs s = true then balRaw rs s.toNat else none
theorem repeat_at (v : Value) (x m : Nat) (z : Int) (hz : z = (m : Int)) (h1 : 2 ≤ m) (h9 : m ≤ 9) (w : World) (hv : RowAt w v ([x].map (Value.float .f32))) :
    Calls Try.prog 91 #[v, .int .i64 z] w (RowOk 27 ((List.replicate m x).map (Value.float .f32)) w) := by
  subst hz
  exact repeat_any v x m h1 h9 w hv
set_option maxRecDepth 100000 in
set_option maxHeartbeats 6400000 in
theorem implBalance_any (s : Int) (ao : Option Addr) (cap : Nat) (rs : List Nat) (w : World) (hv : RowAt w (.slice ao rs.length cap) (rs.map (Value.float .f32))) :
    Calls Try.prog 33 #[.agg #[.int .i64 s, .slice ao rs.length cap]] w (FRowOk 27 (balXs (balOf rs s)) (balAll (balOf rs s)) w) := by
  obtain ⟨i0, hi0, hz0, hz1, hz2⟩ := info_parts (P := Try.prog) (e := 27) (z := Value.float .f32 0) (size := 1) (bytes := 4) (by kernel_rfl)
  obtain ⟨j0, hj0, hy0, hy1, hy2⟩ := info_parts (P := Try.prog) (e := 25) (z := Value.slice none 0 0) (size := 1) (bytes := 24) (by kernel_rfl)
  have HV := hid hv
  clear hv
  cases hC : chainB rs s
  · have HC := hid hC
    have HE := hid (show balOf rs s = none by unfold balOf; rw [hC]; rfl)
    clear hC
    go_enter Try.func33, Try.ntmps33
    go_wp2_with (first
      | (go_at_call 34; (with_reducible refine (validChain_any _ _ _ rs _ (HV.out.below (by (repeat (first | (with_reducible assumption) | (with_reducible apply below_refl) | (with_reducible apply below_alloc1) | (with_reducible apply below_drewN1) | (with_reducible apply below_drew1)))))).mono ?_); rw [HC.out]; rintro e w' ⟨rfl, hb⟩; have hB : Below w.heap.size w w' := below_trans (by (repeat (first | (with_reducible assumption) | (with_reducible apply below_refl) | (with_reducible apply below_alloc1) | (with_reducible apply below_drewN1) | (with_reducible apply below_drew1)))) hb; have hC := (bcell hB).1; clear hb))
    go_ret2
    exact frow_no (by rw [HE.out]; rfl) (by rw [HE.out]; rfl) (by assumption)
  obtain ⟨n, rfl, hn1, hn8, hl, -, -⟩ := chainB_parts hC
  have HE := hid (show balOf rs n = balRaw rs n by unfold balOf; rw [hC]; simp)
  have HCC := hid hC
  have hnn : n * n ≤ 64 := Nat.le_trans (Nat.mul_le_mul hn8 hn8) (by decide)
  have HL := hid hl
  clear hC hl
  go_enter Try.func33, Try.ntmps33
  go_wp2_with (first
    | (go_at_call 34; refine (validChain_any _ _ _ rs _ (HV.out.below (by (repeat (first | (with_reducible assumption) | (with_reducible apply below_refl) | (with_reducible apply below_alloc1) | (with_reducible apply below_drewN1) | (with_reducible apply below_drew1)))))).mono ?_; rw [HCC.out]; rintro e w' ⟨rfl, hb⟩; have hcc := (bcell hb).1; have hB : Below w.heap.size w w' := below_trans (by (repeat (first | (with_reducible assumption) | (with_reducible apply below_refl) | (with_reducible apply below_alloc1) | (with_reducible apply below_drewN1) | (with_reducible apply below_drew1)))) hb; have hz : w.heap.size < w'.heap.size := (by have := hb.size; simp at this; omega); clear hb))
  have k0 : w'.cell? ⟨w.heap.size, 0, none⟩ = some (.int .i64 n) := by rw [hcc _ _ (by simp)]; simp
  have k1 : w'.cell? ⟨w.heap.size, 1, none⟩ = some (.slice ao rs.length cap) := by rw [hcc _ _ (by simp)]; simp
  clear hcc
  obtain ⟨wa, hwa⟩ : ∃ wa, wa = w' := ⟨_, rfl⟩
  subst hwa
  have K0 := hid k0; have K1 := hid k1
  have HB0 := hid hB
  clear k0 k1
  have hV2 := hid (HV.out.below hB)
  have hown00 := hid (show GridV 25 27 (wa.alloc (.cells #[] 25)) wa.heap.size (.slice (some ⟨wa.heap.size, 0, none⟩) 0 0) [] [] from ⟨rfl, World.ownsRow_made wa #[] 0 (Nat.le_refl _) (by simp [maxLen]) rfl, fun i u xs hu => by simp at hu, fun i j u u' _ hu => by simp at hu⟩)
  have W1 : IntKind.i64.wrap ((n : Int) - 1) = (n : Int) - 1 := by rw [IntKind.wrap_i64]; omega
  go_loopw [5, 24] (fun rv kv wr => ∃ (k : Nat) (xss : List (List Nat)) (vs : List Value), k + 1 ≤ n ∧ kv = .int .i64 k ∧ Hid (GridV 25 27 wr wa.heap.size rv xss vs) ∧ Hid (Reads xss k (n + 1) (mat0 rs n)) ∧ Below wa.heap.size wa wr) (fun _ kv _ => n - (intOf kv).toNat)
  case atStart => exact ⟨0, [], [], hn1, rfl, hown00, hid ⟨rfl, fun i hi => by simp at hi, fun i j hi => by simp at hi⟩, by (repeat (first | (with_reducible assumption) | (with_reducible apply below_refl) | (with_reducible apply below_alloc1) | (with_reducible apply below_drewN1) | (with_reducible apply below_drew1)))⟩
  case round =>
    obtain ⟨k, xss, vs, hk, rfl, hbv, hrd, hw⟩ := hrel
    by_cases hlt : k + 1 < n
    · have hkI : (k : Int) < (n : Int) - 1 := by omega
      have hkn : k < n := by omega
      go_wp2_with fail
      obtain ⟨wo, hwo⟩ : ∃ wo, wo = wr := ⟨_, rfl⟩
      subst hwo
      have hown0 := hid (show (wo.alloc (.cells #[] 27)).ownsRow wo.heap.size 27 1 (.slice (some ⟨wo.heap.size, 0, none⟩) 0 0) 0 [] from World.ownsRow_made wo #[] 0 (Nat.le_refl _) (by simp [maxLen]) rfl)
      go_loopw [7, 29] (fun rowv iv wr => ∃ (m : Nat) (ys : List Nat), m ≤ n ∧ iv = .int .i64 m ∧ Hid (ys.length = m) ∧ Hid (∀ j (hj : j < ys.length), ab .f32 ys[j] = mat0 rs n k j) ∧ Hid (wr.ownsRow wo.heap.size 27 1 rowv (ys.map (Value.float .f32)).length (ys.map (Value.float .f32))) ∧ Below wo.heap.size wo wr) (fun _ iv _ => n - (intOf iv).toNat)
      case atStart => exact ⟨0, [], Nat.zero_le _, rfl, hid rfl, hid (fun j hj => by simp at hj), hown0, by (repeat (first | (with_reducible assumption) | (with_reducible apply below_refl) | (with_reducible apply below_alloc1) | (with_reducible apply below_drewN1) | (with_reducible apply below_drew1)))⟩
      case round =>
        obtain ⟨m, ys, hm', rfl, hyl, hyr, ho, hwq⟩ := hrel
        have hwt := below_trans hw hwq
        by_cases hlt2 : m < n
        · have k0 : wr.cell? ⟨w.heap.size, 0, none⟩ = some (.int .i64 n) := by rw [hwt.cell (p := ⟨w.heap.size, 0, none⟩) hz]; exact K0.out
          have k1 : wr.cell? ⟨w.heap.size, 1, none⟩ = some (.slice ao rs.length cap) := by rw [hwt.cell (p := ⟨w.heap.size, 1, none⟩) hz]; exact K1.out
          have hmI : (m : Int) < (n : Int) := by omega
          by_cases hmk : m = k
          · subst hmk
            go_wp2_with (first
              | (go_at_call 89; refine (leaves_any _ _ rs m n hn8 hkn HL.out _ (hV2.out.below (below_trans hwt (by (repeat (first | (with_reducible assumption) | (with_reducible apply below_refl) | (with_reducible apply below_alloc1) | (with_reducible apply below_drewN1) | (with_reducible apply below_drew1))))))).mono ?_; rintro e w5 ⟨q, rfl, hq, hb5⟩; have hB5 : Below wr.heap.size wr w5 := below_trans (by (repeat (first | (with_reducible assumption) | (with_reducible apply below_refl) | (with_reducible apply below_alloc1) | (with_reducible apply below_drewN1) | (with_reducible apply below_drew1)))) hb5; clear hb5)
              | (refine upon_float rfl ?_; intro r nn hr; go_simp)
              | (at_builtin; refine wpList_push rfl _ _ 25 rfl Try.underlying25 hi0 hz0 hz1 hz2 rfl wo.heap.size _ _ rfl rfl (ownsRow_below ho.out (by (repeat (first | (with_reducible assumption) | (with_reducible apply below_refl) | (with_reducible apply below_alloc1) | (with_reducible apply below_drewN1) | (with_reducible apply below_drew1))))) rfl (by rw [List.length_map, hyl.out]; omega) (by decide) (Nat.le_trans hwq.size (Below.size (show Below wr.heap.size wr _ by (repeat (first | (with_reducible assumption) | (with_reducible apply below_refl) | (with_reducible apply below_alloc1) | (with_reducible apply below_drewN1) | (with_reducible apply below_drew1)))))) ?_; intro v1 w2 hown hb2))
            all_goals
              go_roundw
              case rel =>
                refine ⟨m + 1, ys ++ [r], by omega, by go_num, hid (by rw [List.length_append, hyl.out]; rfl), hid (at_push hyr.out ?_), hid (by rw [fl_vals]; exact hown), (below_trans hwq (by (repeat (first | (with_reducible assumption) | (with_reducible apply below_refl) | (with_reducible apply below_alloc1) | (with_reducible apply below_drewN1) | (with_reducible apply below_drew1))))).trans hb2⟩
                rw [hyl.out, hr, hq, ab_z32]
                simp [mat0, hlt, hlt2]
              case measure => simp [intOf]; omega
          · have hmkI : ¬ (m : Int) = (k : Int) := by omega
            go_wp2_with (first
              | (go_at_call 90; refine (rate_any _ _ rs m k n hn8 hlt2 hkn HL.out _ (hV2.out.below (below_trans hwt (by (repeat (first | (with_reducible assumption) | (with_reducible apply below_refl) | (with_reducible apply below_alloc1) | (with_reducible apply below_drewN1) | (with_reducible apply below_drew1))))))).mono ?_; rintro e w5 ⟨q, rfl, hq, hb5⟩; have hB5 : Below wr.heap.size wr w5 := below_trans (by (repeat (first | (with_reducible assumption) | (with_reducible apply below_refl) | (with_reducible apply below_alloc1) | (with_reducible apply below_drewN1) | (with_reducible apply below_drew1)))) hb5; clear hb5)
              | (at_builtin; refine wpList_push rfl _ _ 25 rfl Try.underlying25 hi0 hz0 hz1 hz2 rfl wo.heap.size _ _ rfl rfl (ownsRow_below ho.out (by (repeat (first | (with_reducible assumption) | (with_reducible apply below_refl) | (with_reducible apply below_alloc1) | (with_reducible apply below_drewN1) | (with_reducible apply below_drew1))))) rfl (by rw [List.length_map, hyl.out]; omega) (by decide) (Nat.le_trans hwq.size (Below.size (show Below wr.heap.size wr _ by (repeat (first | (with_reducible assumption) | (with_reducible apply below_refl) | (with_reducible apply below_alloc1) | (with_reducible apply below_drewN1) | (with_reducible apply below_drew1)))))) ?_; intro v1 w2 hown hb2))
            all_goals
              go_roundw
              case rel =>
                refine ⟨m + 1, ys ++ [q], by omega, by go_num, hid (by rw [List.length_append, hyl.out]; rfl), hid (at_push hyr.out ?_), hid (by rw [fl_vals]; exact hown), (below_trans hwq (by (repeat (first | (with_reducible assumption) | (with_reducible apply below_refl) | (with_reducible apply below_alloc1) | (with_reducible apply below_drewN1) | (with_reducible apply below_drew1))))).trans hb2⟩
                rw [hyl.out, hq]
                simp [mat0, hlt, hlt2, hmk]
              case measure => simp [intOf]; omega
        · obtain rfl : m = n := by omega
          go_wp2_with (first
            | (at_builtin; refine wpList_push rfl _ _ 25 rfl Try.underlying25 hi0 hz0 hz1 hz2 rfl wo.heap.size _ (ys.map (Value.float .f32)) rfl rfl (ownsRow_below ho.out (by (repeat (first | (with_reducible assumption) | (with_reducible apply below_refl) | (with_reducible apply below_alloc1) | (with_reducible apply below_drewN1) | (with_reducible apply below_drew1))))) rfl (by rw [List.length_map, hyl.out]; omega) (by decide) (Nat.le_trans hwq.size (Below.size (show Below wr.heap.size wr _ by (repeat (first | (with_reducible assumption) | (with_reducible apply below_refl) | (with_reducible apply below_alloc1) | (with_reducible apply below_drewN1) | (with_reducible apply below_drew1)))))) ?_; intro v1 w2 hown hb2; rw [← fl_vals] at hown; obtain ⟨g, cp, hrv, -, -, -, -⟩ := slice_of_own hown (by simp); obtain ⟨LL, hLL⟩ : ∃ LL, LL = ((ys ++ [0]).map (Value.float .f32)).length := ⟨_, rfl⟩; rw [← hLL] at hrv; clear hLL; subst hrv; have HO1 := hid hown; have HW2 := (below_trans hwq (show Below wr.heap.size wr _ by (repeat (first | (with_reducible assumption) | (with_reducible apply below_refl) | (with_reducible apply below_alloc1) | (with_reducible apply below_drewN1) | (with_reducible apply below_drew1))))).trans hb2; clear hown hb2)
            | (at_builtin; refine wpList_pushG rfl _ _ 44 rfl Try.underlying44 hj0 hy0 hy1 hy2 rfl wa.heap.size _ xss vs rfl rfl (hbv.out.below (below_trans HW2 (by (repeat (first | (with_reducible assumption) | (with_reducible apply below_refl) | (with_reducible apply below_alloc1) | (with_reducible apply below_drewN1) | (with_reducible apply below_drew1)))))) rfl (by rw [hrd.out.1]; omega) (by decide) (Nat.le_trans hw.size (Below.size (below_trans HW2 (show Below w2.heap.size w2 _ by (repeat (first | (with_reducible assumption) | (with_reducible apply below_refl) | (with_reducible apply below_alloc1) | (with_reducible apply below_drewN1) | (with_reducible apply below_drew1))))))) (ys ++ [0]) (by simp) (ownsRow_low (ownsRow_below HO1.out (by (repeat (first | (with_reducible assumption) | (with_reducible apply below_refl) | (with_reducible apply below_alloc1) | (with_reducible apply below_drewN1) | (with_reducible apply below_drew1))))) hw.size) wo.heap.size (fun g' hg' => (HO1.out.lt g' hg').1) ⟨fun g' hg' => (hbv.out.lt.1 g' hg').2, fun x hx g' hg' => (hbv.out.lt.2 x hx g' hg').2⟩ ?_; intro v3 w3 hgv hgr hblk hb3; have HGV := hid hgv; have HL2 := (below_trans hw (below_trans HW2 (show Below w2.heap.size w2 _ by (repeat (first | (with_reducible assumption) | (with_reducible apply below_refl) | (with_reducible apply below_alloc1) | (with_reducible apply below_drewN1) | (with_reducible apply below_drew1)))))).trans hb3; clear hgv hgr hblk hb3))
          go_roundw
          case rel =>
            refine ⟨k + 1, _, _, by omega, by go_num, HGV, hid (reads_push hrd.out (by rw [List.length_append, hyl.out]; rfl) (at_push hyr.out ?_)), HL2⟩
            rw [hyl.out, ab_z32]
            simp [mat0, hlt]
          case measure => simp [intOf]; omega
    · have hkn : k + 1 = n := by omega
      have hkI : ¬ (k : Int) < (n : Int) - 1 := by omega
      have W2 : IntKind.i64.wrap ((n : Int) + 1) = (n : Int) + 1 := by rw [IntKind.wrap_i64]; omega
      have HRD := hid (show Reads (xss ++ [List.replicate (n + 1) 1065353216]) n (n + 1) (mat0 rs n) by
        have := reads_push hrd.out (List.length_replicate (n := n + 1) (a := 1065353216)) (fun j hj => by rw [List.getElem_replicate, ab_one32]; simp [mat0, hkn])
        rw [hkn] at this
        exact this)
      go_wp2_with (first
        | (go_at_call 91; refine (repeat_at _ 1065353216 (n + 1) _ (by omega) (by omega) (by omega) _ (rowAt_alloc _ _ [.float .f32 1065353216] (by simp [maxLen]))).mono ?_; rintro e w2 ⟨u2, rfl, ho2, hb2⟩; obtain ⟨g, cp, hrv, -, -, -, -⟩ := slice_of_own ho2 (by simp); obtain ⟨LL, hLL⟩ : ∃ LL, LL = ((List.replicate (n + 1) 1065353216).map (Value.float .f32)).length := ⟨_, rfl⟩; rw [← hLL] at hrv; clear hLL; subst hrv; have HO1 := hid (ownsRow_low ho2 (show wr.heap.size ≤ _ from Below.size (show Below wr.heap.size wr _ by (repeat (first | (with_reducible assumption) | (with_reducible apply below_refl) | (with_reducible apply below_alloc1) | (with_reducible apply below_drewN1) | (with_reducible apply below_drew1)))))); have HW2 : Below wr.heap.size wr w2 := below_trans (by (repeat (first | (with_reducible assumption) | (with_reducible apply below_refl) | (with_reducible apply below_alloc1) | (with_reducible apply below_drewN1) | (with_reducible apply below_drew1)))) hb2; clear ho2 hb2)
        | (at_builtin; refine wpList_pushG rfl _ _ 44 rfl Try.underlying44 hj0 hy0 hy1 hy2 rfl wa.heap.size _ xss vs rfl rfl (hbv.out.below (below_trans HW2 (by (repeat (first | (with_reducible assumption) | (with_reducible apply below_refl) | (with_reducible apply below_alloc1) | (with_reducible apply below_drewN1) | (with_reducible apply below_drew1)))))) rfl (by rw [hrd.out.1]; omega) (by decide) (Nat.le_trans hw.size (Below.size (below_trans HW2 (show Below w2.heap.size w2 _ by (repeat (first | (with_reducible assumption) | (with_reducible apply below_refl) | (with_reducible apply below_alloc1) | (with_reducible apply below_drewN1) | (with_reducible apply below_drew1))))))) (List.replicate (n + 1) 1065353216) (by simp) (ownsRow_low (ownsRow_below HO1.out (by (repeat (first | (with_reducible assumption) | (with_reducible apply below_refl) | (with_reducible apply below_alloc1) | (with_reducible apply below_drewN1) | (with_reducible apply below_drew1))))) hw.size) wr.heap.size (fun g' hg' => (HO1.out.lt g' hg').1) ⟨fun g' hg' => (hbv.out.lt.1 g' hg').2, fun x hx g' hg' => (hbv.out.lt.2 x hx g' hg').2⟩ ?_; intro v3 w3 hgv hgr hblk hb3; have HL2 := (below_trans hw (below_trans HW2 (show Below w2.heap.size w2 _ by (repeat (first | (with_reducible assumption) | (with_reducible apply below_refl) | (with_reducible apply below_alloc1) | (with_reducible apply below_drewN1) | (with_reducible apply below_drew1)))))).trans hb3; obtain ⟨G, cG, e1, hMV⟩ := GridV.mat hn1 hgv HRD.out; have HMV := hid hMV; clear hMV; subst e1; clear hgv hgr hblk hb3))
      have hlo := HL2.size
      have hcaps := (HMV.out.at (i := 0) (by omega)).2.2.2
      have q1 := hcaps.1; have q2 := hcaps.2.1
      unfold maxLen at q2
      clear hcaps HW2 hw hbv hrd HRD HO1 HV hV2 K0 K1 hz hB hkI hlt hkn hk W2
      obtain ⟨wb, hwb⟩ : ∃ wb, wb = wr := ⟨_, rfl⟩
      subst hwb
      go_loopw [65] (fun i wr => ∃ (k : Nat) (B : Mat) (vs : List Value), k ≤ n ∧ i = .int .i64 k ∧ Hid (runM n (mat0 rs n) k = some B) ∧ Hid (MatV 25 27 wr wa.heap.size G cG n (n + 1) B vs) ∧ Below wa.heap.size wa wr) (fun i _ => n - (intOf i).toNat)
      case atStart => exact ⟨0, _, _, by omega, rfl, hid rfl, HMV, HL2⟩
      case round =>
        obtain ⟨k, B, vs, hk, rfl, hrun, hs, hw⟩ := hrel
        by_cases hlt : k < n
        · have hkI : (k : Int) < (n : Int) := by omega
          have hkz : (0 : Int) ≤ (k : Int) := by omega
          go_wp2_with fail
          obtain ⟨wo, hwo⟩ : ∃ wo, wo = wr := ⟨_, rfl⟩
          subst hwo
          go_loopw [10, 11] (fun x j wq => ∃ (J b : Nat), k ≤ J ∧ J ≤ n ∧ j = .int .i64 J ∧ x = .int .i64 b ∧ Hid (b = bst B k (J - k)) ∧ k ≤ b ∧ b < n ∧ Below wo.heap.size wo wq) (fun _ j _ => n - (intOf j).toNat)
          case atStart => exact ⟨k, k, Nat.le_refl _, by omega, by go_num, rfl, hid (by rw [Nat.sub_self]; rfl), by omega, by omega, by (repeat (first | (with_reducible assumption) | (with_reducible apply below_refl) | (with_reducible apply below_alloc1) | (with_reducible apply below_drewN1) | (with_reducible apply below_drew1)))⟩
          case round =>
            obtain ⟨J, b, hkJ, hJn, rfl, rfl, hb, hkb, hbn, hwr⟩ := hrel
            have hsr := hs.out.below hwr
            obtain ⟨f0, f1, f2, f3, f4, g, cp, c1, c2, c3, c4, c5, c6, c7⟩ := hsr.at (i := b) hbn
            obtain ⟨y, hy, hyv, -⟩ := c7 k (by omega)
            clear c7
            have hbI : (b : Int) < (n : Int) := by omega
            have hbz : (0 : Int) ≤ (b : Int) := by omega
            have hkn1 : (k : Int) < ((n + 1 : Nat) : Int) := by omega
            by_cases hlt2 : J < n
            · obtain ⟨-, -, -, -, -, g', cp', -, -, -, -, c5', c6', c7'⟩ := hsr.at (i := J) hlt2
              obtain ⟨x, hx, hxv, -⟩ := c7' k (by omega)
              clear c7'
              have hjI : (J : Int) < (n : Int) := by omega
              have hjz : (0 : Int) ≤ (J : Int) := by omega
              have HN := hid (show bst B k (J + 1 - k) = if (ford .f32 (absM (ab .f32 x)) (absM (ab .f32 y)) == some .gt) = true then J else b by
                rw [show J + 1 - k = (J - k) + 1 by omega, bst_next, ← hb.out, show k + (J - k) = J by omega]
                unfold gtX
                rw [hxv, hyv])
              clear hxv hyv
              go_wp2_with (first
                | (go_region_held (fun w' => Below wr.heap.size wr w' ∧ ∀ b o, b < wr.heap.size → w'.cell? ⟨b, o, none⟩ = wr.cell? ⟨b, o, none⟩) (first | exact keep_next ‹_› ‹_› | exact keep_start | exact keep_drew ‹_› | exact keep_of (by (repeat (first | (with_reducible assumption) | (with_reducible apply below_refl) | (with_reducible apply below_alloc1) | (with_reducible apply below_drewN1) | (with_reducible apply below_drew1))))) (first | (go_at_call 92; refine (absolute_any _ _).mono ?_; rintro e w' ⟨r, rfl, hr, hb⟩)) <;> (rename_i hHeld; obtain ⟨hB, hC⟩ := hHeld)))
              all_goals
                refine ⟨?_, by simp [intOf]; omega⟩
                first
                  | exact ⟨J + 1, b, by omega, by omega, by go_num, rfl, hid (by rw [HN.out, if_neg (by simp [*])]), hkb, by omega, below_trans hwr hB⟩
                  | exact ⟨J + 1, J, by omega, by omega, by go_num, rfl, hid (by rw [HN.out, if_pos (by assumption)]), by omega, by omega, below_trans hwr hB⟩
            · obtain rfl : J = n := by omega
              obtain ⟨e0, -, -, -, -, g', cp', -, -, -, -, c5', c6', -⟩ := hsr.at (i := k) hlt
              have ov1 := set_over c6' c6
              obtain ⟨HSW0, -, -⟩ := hsr.swapped hlt hbn c6' c6
              have HSW := hid (HSW0.below (below_drew _))
              clear HSW0
              rw [swp_comm B k b] at HSW
              generalize hW2 : ((wr.setCell ⟨G, k, none⟩ (.slice (some ⟨g, 0, none⟩) (J + 1) cp)).setCell ⟨G, b, none⟩ (.slice (some ⟨g', 0, none⟩) (J + 1) cp')).drew = w2 at HSW
              have HL2 : Below wa.heap.size wa w2 := by rw [← hW2]; exact (((below_trans hw hwr).setCell f2 _).setCell f2 _).drew
              have HBE := hid (show b = bst B k (J - k) from hb.out)
              obtain ⟨-, t1, -, -, -, g3, cp3, t2, t3, t4, t5, t6, t7, t8⟩ := HSW.out.at (i := k) hlt
              obtain ⟨z, hz, hzv, -⟩ := t8 k (by omega)
              clear t8
              by_cases hz0 : ford .f32 (ab .f32 z) (some 0) = some Ordering.eq
              · have HNONE := hid (step_none hlt hrun.out (by rw [← HBE.out, ← hzv]; exact hz0))
                clear hzv
                go_wp2_with fail
                go_big_region
                go_wp2_with (first
                  | (with_reducible refine wp_world hW2 ?_; clear hW2))
                go_ret2
                have hM : balOf rs J = none := by rw [HE.out]; unfold balRaw; rw [HNONE.out]; rfl
                exact frow_no (by rw [hM]; rfl) (by rw [hM]; rfl) (below_trans HB0.out HL2)
              · have HSOME := hid (step_some hrun.out (by rw [← HBE.out, ← hzv]; exact hz0))
                clear hzv
                have hzb : (ford .f32 (ab .f32 z) (some 0) == some Ordering.eq) = false := by simpa using hz0
                by_cases hcg : cG = k + 1
                · subst hcg
                  go_wp2_with fail
                  go_big_region
                  go_wp2_with (first
                    | (with_reducible refine wp_world hW2 ?_; clear hW2))
                  rw [← HBE.out] at HSOME
                  generalize hC : swp B k b = C at HSW HSOME
                  clear hC
                  clear hsr hs hwr hw hrun hb HBE hy hyv c6 c6' ov1 hz hz0 hzb t7 HL
                  have hJk : J = k + 1 := by omega
                  have hJn2 : ¬ J = 0 := by omega
                  have h0 : ¬ (0 : Int) < ((J - (k + 1) : Nat) : Int) := by omega
                  go_loopw [120] (fun i wr => i = .int .i64 0 ∧ wr = w2) (fun _ _ => 0)
                  case atStart => exact ⟨rfl, rfl⟩
                  case round =>
                    obtain ⟨rfl, rfl⟩ := hrel
                    go_wp2_with fail
                    go_roundw
                    case rel => exact ⟨k + 1, _, _, by omega, by go_num, HSOME, hid (HSW.out.congr (fun r c _ _ => by rw [hJk]; exact (elim_start C k r c).symm)), HL2⟩
                    case measure => simp [intOf]; omega
                · go_wp2_with fail
                  go_big_region
                  go_wp2_with (first
                    | (with_reducible refine wp_world hW2 ?_; clear hW2))
                  rw [← HBE.out] at HSOME
                  generalize hC : swp B k b = C at HSW HSOME
                  clear hC
                  clear hsr hs hwr hw hrun hb HBE hy hyv c6 c6' ov1 hz hz0 hzb t7 HL
                  go_loopw [120] (fun i wr => ∃ t : Nat, k + 1 + t ≤ J ∧ i = .int .i64 t ∧ Hid (∃ vs, MatV 25 27 wr wa.heap.size G cG J (J + 1) (elim C k (k + 1 + t) (k + 1)) vs) ∧ Below wa.heap.size wa wr) (fun i _ => J - (intOf i).toNat)
                  case atStart => exact ⟨0, by omega, rfl, hid ⟨_, (HSW.out.congr (fun r c _ _ => (elim_start C k r c).symm)).below (by (repeat (first | (with_reducible assumption) | (with_reducible apply below_refl) | (with_reducible apply below_alloc1) | (with_reducible apply below_drewN1) | (with_reducible apply below_drew1))))⟩, HL2⟩
                  case round =>
                    obtain ⟨t, htJ, rfl, hs, hw⟩ := hrel
                    obtain ⟨vs, hs⟩ := hs.out
                    have hs := hid hs
                    by_cases hlt3 : k + 1 + t < J
                    · obtain ⟨-, f1, f2, f3, f4, g, cp, c1, c2, c3, c4, c5, c6, c7⟩ := hs.out.at (i := k + 1 + t) hlt3
                      obtain ⟨x, hx, hxv, -⟩ := c7 k (by omega)
                      obtain ⟨-, -, -, -, -, g', cp', d1, d2, d3, d4, d5, d6, d7⟩ := hs.out.at (i := k) hlt
                      obtain ⟨y, hy, hyv, -⟩ := d7 k (by omega)
                      clear c7 d7
                      rw [elim_left] at hxv hyv
                      have hII : (t : Int) < ((J - (k + 1) : Nat) : Int) := by omega
                      have hIz : (0 : Int) ≤ (t : Int) := by omega
                      have hkn1 : (k : Int) < ((J + 1 : Nat) : Int) := by omega
                      have C6 := hid c6
                      obtain ⟨fe1, fe2, fe3, fe4⟩ := run_fres4 Try.prog
                      obtain ⟨fa1, fa2, fa3, fa4⟩ := ab_fres4
                      go_wp2_with fail
                      go_big_region
                      go_wp2_with fail
                      have HQ : Hid (ab .f32 (fres .quo .f32 x y wr.drew) = fop .quo .f32 (C (k + 1 + t) k) (C k k)) := hid (by rw [fa4, hxv, hyv])
                      generalize fres .quo .f32 x y wr.drew = q at HQ
                      obtain ⟨wo, hwo⟩ : ∃ wo, wo = wr := ⟨_, rfl⟩
                      subst hwo
                      clear hx hy hxv hyv fe1 fe2 fe3 fe4 fa1 fa2 fa3 fa4
                      clear c6 d6 f1 f2 f3 f4 c1 c2 c3 c4 c5 d1 d2 d3 d4 d5
                      have hlow := Nat.le_trans (Nat.le_refl wa.heap.size) hw.size
                      go_loopw [15] (fun j wr => ∃ (jj : Nat) (vs : List Value), k + 1 ≤ jj ∧ jj ≤ J + 1 ∧ j = .int .i64 jj ∧ Hid (MatV 25 27 wr wa.heap.size G cG J (J + 1) (elim C k (k + 1 + t) jj) vs) ∧ Hid (wr.cell? ⟨G, k + 1 + t, none⟩ = some (.slice (some ⟨g, 0, none⟩) (J + 1) cp)) ∧ Below wa.heap.size wa wr) (fun j _ => J + 1 - (intOf j).toNat)
                      case atStart => exact ⟨k + 1, vs, Nat.le_refl _, by omega, by go_num, hid (hs.out.below (by (repeat (first | (with_reducible assumption) | (with_reducible apply below_refl) | (with_reducible apply below_alloc1) | (with_reducible apply below_drewN1) | (with_reducible apply below_drew1))))), hid C6.out, hw.trans (Below.mono (show Below wo.heap.size wo _ by (repeat (first | (with_reducible assumption) | (with_reducible apply below_refl) | (with_reducible apply below_alloc1) | (with_reducible apply below_drewN1) | (with_reducible apply below_drew1)))) hlow)⟩
                      case round =>
                        obtain ⟨j, vs, hkj, hjn, rfl, hs, hc6, hw⟩ := hrel
                        have hjz : (0 : Int) ≤ (j : Int) := by omega
                        by_cases hlt4 : j ≤ J
                        · obtain ⟨-, f1, f2, f3, f4, g2, cp2, c1, c2, c3, c4, c5, c6, c7⟩ := hs.out.at (i := k + 1 + t) hlt3
                          obtain ⟨rfl, rfl⟩ : g = g2 ∧ cp = cp2 := by
                            have := hc6.out
                            rw [c6] at this
                            simp at this
                            exact ⟨this.1.symm, this.2.symm⟩
                          obtain ⟨x, hx, hxv, hxf⟩ := c7 j (by omega)
                          obtain ⟨-, -, -, -, -, g', cp', d1, d2, d3, d4, d5, d6, d7⟩ := hs.out.at (i := k) hlt
                          obtain ⟨y, hy, hyv, -⟩ := d7 j (by omega)
                          clear c7 d7
                          have HXV := hid (hxv.trans (elim_here C k (k + 1 + t) j)); have HYV := hid (hyv.trans (elim_top C k (k + 1 + t) j j))
                          clear hxv hyv
                          have hjI : (j : Int) ≤ (J : Int) := by omega
                          have hjI2 : (j : Int) < ((J + 1 : Nat) : Int) := by omega
                          obtain ⟨fe1, fe2, fe3, fe4⟩ := run_fres4 Try.prog
                          obtain ⟨fa1, fa2, fa3, fa4⟩ := ab_fres4
                          have hlow2 := hw.size
                          have HST : ∀ (wz : World) (q : Nat), Below wr.heap.size wr wz → ab .f32 q = elim C k (k + 1 + t) (j + 1) (k + 1 + t) j → ∃ vs', MatV 25 27 (wz.setCell ⟨g, j, none⟩ (.float .f32 q)) wa.heap.size G cG J (J + 1) (elim C k (k + 1 + t) (j + 1)) vs' ∧ (wz.setCell ⟨g, j, none⟩ (.float .f32 q)).cell? ⟨G, k + 1 + t, none⟩ = some (.slice (some ⟨g, 0, none⟩) (J + 1) cp) := fun wz q hz hq => by
                            have h := MatV.stored (i := k + 1 + t) (j := j) (B := elim C k (k + 1 + t) j) (m := J + 1) (cp := cp) (q := q) (hs.out.below hz) hlt3 (by omega) (by rw [hz.cell (p := ⟨G, k + 1 + t, none⟩) f1]; exact c6) hq (fun r c _ _ hn => by rw [elim_next C k (k + 1 + t) j r c (by omega) (by omega), if_neg hn])
                            refine ⟨vs, h.1, ?_⟩
                            rw [World.cell?_setCell_far _ _ _ _ (show g ≠ G from c4), hz.cell (p := ⟨G, k + 1 + t, none⟩) f1]
                            exact c6
                          have HST2 := hid HST
                          clear HST
                          go_wp2_with fail
                          go_big_region
                          go_wp2_with fail
                          have hst := HST2.out (wr.drewN (1 + fdr .mul .f32 q y + fdr .sub .f32 x (fres .mul .f32 q y wr.drew))) (fres .sub .f32 x (fres .mul .f32 q y wr.drew) (wr.drewN (1 + fdr .mul .f32 q y))) (by (repeat (first | (with_reducible assumption) | (with_reducible apply below_refl) | (with_reducible apply below_alloc1) | (with_reducible apply below_drewN1) | (with_reducible apply below_drew1)))) (by rw [elim_next C k (k + 1 + t) j (k + 1 + t) j (by omega) (by omega), if_pos ⟨rfl, rfl⟩, fa2, fa3, HXV.out, HYV.out, HQ.out])
                          obtain ⟨vs', hs1, hs2⟩ := hst
                          have HS1 := hid hs1; have HS2 := hid hs2
                          clear hs1 hs2
                          go_roundw
                          case rel => exact ⟨j + 1, vs', by omega, by omega, by go_num, HS1, HS2, Below.setCell (hw.trans (Below.mono (show Below wr.heap.size wr _ by (repeat (first | (with_reducible assumption) | (with_reducible apply below_refl) | (with_reducible apply below_alloc1) | (with_reducible apply below_drewN1) | (with_reducible apply below_drew1)))) hlow2)) c3 _⟩
                          case measure => simp [intOf]; omega
                        · obtain rfl : j = J + 1 := by omega
                          have hjI : ¬ ((J + 1 : Nat) : Int) ≤ (J : Int) := by omega
                          go_wp2_with fail
                          go_roundw
                          case rel => exact ⟨t + 1, by omega, by go_num, hid ⟨vs, MatV.congr hs.out (fun r c _ hc => by rw [show k + 1 + (t + 1) = (k + 1 + t) + 1 by omega]; exact (elim_row C k (k + 1 + t) J r c hc).symm)⟩, hw⟩
                          case measure => simp [intOf]; omega
                    · have htJ2 : k + 1 + t = J := by omega
                      have hII : ¬ (t : Int) < ((J - (k + 1) : Nat) : Int) := by omega
                      rw [htJ2] at hs
                      go_wp2_with fail
                      go_roundw
                      case rel => exact ⟨k + 1, _, _, by omega, by go_num, HSOME, hs, hw⟩
                      case measure => simp [intOf]; omega
        · obtain rfl : k = n := by omega
          have hkI : ¬ (k : Int) < (k : Int) := by omega
          have HM := hid (show balOf rs k = some (outL B k) by rw [HE.out]; unfold balRaw; rw [hrun.out]; rfl)
          obtain ⟨xss, hr, hrw⟩ := hs.out.rows
          have HR := hid hr; have HRW := hid hrw
          clear hr hrw
          cases hF : finL (outL B k)
          · have HF := hid hF
            clear hF
            go_wp2_with (first
              | (go_at_call 93; refine (backwards_any _ xss k B hn1 hn8 HR.out _ (HRW.out.below (by (repeat (first | (with_reducible assumption) | (with_reducible apply below_refl) | (with_reducible apply below_alloc1) | (with_reducible apply below_drewN1) | (with_reducible apply below_drew1)))))).mono ?_; rintro e w6 ⟨u6, bs, rfl, ho6, hbs, hb6⟩; have HBS := hid hbs; have HO6 := hid (ownsRow_low ho6 (show w.heap.size ≤ _ from Nat.le_trans HB0.out.size (Nat.le_trans hw.size (Below.size (show Below wr.heap.size wr _ by (repeat (first | (with_reducible assumption) | (with_reducible apply below_refl) | (with_reducible apply below_alloc1) | (with_reducible apply below_drewN1) | (with_reducible apply below_drew1)))))))); have HW6 : Below wr.heap.size wr w6 := below_trans (by (repeat (first | (with_reducible assumption) | (with_reducible apply below_refl) | (with_reducible apply below_alloc1) | (with_reducible apply below_drewN1) | (with_reducible apply below_drew1)))) hb6; clear hb6 hbs ho6)
              | (go_at_call 59; refine (ifAll_no _ bs (by rw [finL_map, HBS.out]; exact HF.out) _ ((Own.mk' HO6.out).row.below (by (repeat (first | (with_reducible assumption) | (with_reducible apply below_refl) | (with_reducible apply below_alloc1) | (with_reducible apply below_drewN1) | (with_reducible apply below_drew1)))))).mono ?_; rintro e w7 ⟨rfl, hb7⟩; have HB7 := hid (below_trans (show Below w6.heap.size w6 _ by (repeat (first | (with_reducible assumption) | (with_reducible apply below_refl) | (with_reducible apply below_alloc1) | (with_reducible apply below_drewN1) | (with_reducible apply below_drew1)))) hb7); clear hb7))
            go_ret2
            exact frow_no (by rw [HM.out]; simp [balXs, HF.out]) (by rw [HM.out]; exact HF.out) (below_trans HB0.out (below_trans hw (below_trans HW6 HB7.out)))
          · have HF := hid hF
            clear hF
            go_wp2_with (first
              | (go_at_call 93; refine (backwards_any _ xss k B hn1 hn8 HR.out _ (HRW.out.below (by (repeat (first | (with_reducible assumption) | (with_reducible apply below_refl) | (with_reducible apply below_alloc1) | (with_reducible apply below_drewN1) | (with_reducible apply below_drew1)))))).mono ?_; rintro e w6 ⟨u6, bs, rfl, ho6, hbs, hb6⟩; have HBS := hid hbs; have HO6 := hid (ownsRow_low ho6 (show w.heap.size ≤ _ from Nat.le_trans HB0.out.size (Nat.le_trans hw.size (Below.size (show Below wr.heap.size wr _ by (repeat (first | (with_reducible assumption) | (with_reducible apply below_refl) | (with_reducible apply below_alloc1) | (with_reducible apply below_drewN1) | (with_reducible apply below_drew1)))))))); have HW6 : Below wr.heap.size wr w6 := below_trans (by (repeat (first | (with_reducible assumption) | (with_reducible apply below_refl) | (with_reducible apply below_alloc1) | (with_reducible apply below_drewN1) | (with_reducible apply below_drew1)))) hb6; clear hb6 hbs ho6)
              | (go_at_call 59; refine (ifAll_yes _ bs (by rw [finL_map, HBS.out]; exact HF.out) _ ((Own.mk' HO6.out).row.below (by (repeat (first | (with_reducible assumption) | (with_reducible apply below_refl) | (with_reducible apply below_alloc1) | (with_reducible apply below_drewN1) | (with_reducible apply below_drew1)))))).mono ?_; rintro e w7 ⟨rfl, hb7⟩; have HB7 := hid (below_trans (show Below w6.heap.size w6 _ by (repeat (first | (with_reducible assumption) | (with_reducible apply below_refl) | (with_reducible apply below_alloc1) | (with_reducible apply below_drewN1) | (with_reducible apply below_drew1)))) hb7); clear hb7))
            go_ret2
            refine frow_yes (by rw [HM.out]; exact HF.out) ?_ (below_trans HB0.out (below_trans hw (below_trans HW6 HB7.out)))
            have hbl : bs = balXs (balOf rs k) := by
              rw [HM.out]
              simp only [balXs, HF.out, if_true]
              exact ab_bits _ _ HBS.out HF.out
            rw [← hbl]
            exact ownsRow_below HO6.out HB7.out

/-! ## BalBoth -/
theorem chain_box {w : World} {s : Int} {ao : Option Addr} {cap : Nat} {rs : List Nat} (t : TypeId) (hv : RowAt w (.slice ao rs.length cap) (rs.map (Value.float .f32))) : ChainAt (w.alloc (.cells #[.int .i64 s, .slice ao rs.length cap] t)) w.heap.size s rs :=
  ⟨ao, cap, by simp, by simp, hv.below (below_alloc _ _)⟩
theorem implBalance_v (s : Int) (v : Value) (rs : List Nat) (w : World) (hv : RowAt w v (rs.map (Value.float .f32))) :
    Calls Try.prog 33 #[.agg #[.int .i64 s, v]] w (FRowOk 27 (balXs (balOf rs s)) (balAll (balOf rs s)) w) := by
  have h := hv
  obtain ⟨ao, cap, b, off, rfl, -⟩ := hv
  rw [List.length_map] at h ⊢
  exact implBalance_any s ao cap rs w h
theorem balRaw_len {rs : List Nat} {n : Nat} {L : List (Option Nat)} (h : balRaw rs n = some L) : L.length = n := by
  unfold balRaw at h
  cases hr : runM n (mat0 rs n) n with
  | none => rw [hr] at h; cases h
  | some B =>
    rw [hr] at h
    cases h
    simp [outL]
theorem balOf_len (rs : List Nat) (s : Int) : (balXs (balOf rs s)).length ≤ 8 := by
  unfold balOf
  cases hC : chainB rs s
  · simp [balXs]
  · obtain ⟨n, rfl, -, hn8, -⟩ := chainB_parts hC
    simp only [if_true, Int.toNat_natCast]
    cases hM : balRaw rs n with
    | none => simp [balXs]
    | some L =>
      have := balRaw_len hM
      unfold balXs
      simp only
      split
      · simp [bitsOf]; omega
      · simp

/-! ## Up -/
def upS (xs : List Nat) (us : List Bool) : Nat → Option Nat
  | 0 => some 0
  | m + 1 => if us.getD m false = true then fop .add .f32 (upS xs us m) (atX xs m) else upS xs us m
theorem upS_next (xs : List Nat) (us : List Bool) (m : Nat) : upS xs us (m + 1) = if us.getD m false = true then fop .add .f32 (upS xs us m) (atX xs m) else upS xs us m := rfl
def upM (rs : List Nat) (s : Int) (us : List Bool) : Option Nat × Bool :=
  if balAll (balOf rs s) = true ∧ us.length = (balXs (balOf rs s)).length then ifFin (upS (balXs (balOf rs s)) us us.length) else (some 0, false)
theorem balAll_len {rs : List Nat} {s : Int} (h : balAll (balOf rs s) = true) : ((balXs (balOf rs s)).length : Int) = s ∧ 1 ≤ (balXs (balOf rs s)).length ∧ (balXs (balOf rs s)).length ≤ 8 := by
  unfold balOf at h ⊢
  cases hC : chainB rs s
  · rw [hC] at h; simp [balAll] at h
  · obtain ⟨n, rfl, hn1, hn8, -⟩ := chainB_parts hC
    rw [hC] at h
    simp only [if_true, Int.toNat_natCast] at h ⊢
    cases hM : balRaw rs n with
    | none => rw [hM] at h; simp [balAll] at h
    | some L =>
      rw [hM] at h
      have hl := balRaw_len hM
      have hf : finL L = true := h
      simp only [balXs, hf, if_true, bitsOf, List.length_map]
      omega
set_option maxRecDepth 100000 in
set_option maxHeartbeats 1600000 in
theorem implUp_any (s : Int) (v : Value) (rs : List Nat) (u : Value) (us : List Bool) (w : World) (hv : RowAt w v (rs.map (Value.float .f32))) (hu : RowAt w u (us.map Value.bool)) :
    Calls Try.prog 36 #[.agg #[.int .i64 s, v], u] w (NumOk (upM rs s us) w) := by
  have HV := hid hv
  obtain ⟨ao, cap, b, off, rfl, hao, hl, hm, hc⟩ := hu
  simp only [List.length_map] at hao hl ⊢
  unfold maxLen at hm
  have HA := hid hao; have HC := hid hc
  clear hv hao hc
  cases hok : balAll (balOf rs s)
  · have HOK := hid hok
    have HM := hid (show upM rs s us = (some 0, false) by unfold upM; rw [hok]; simp)
    clear hok
    go_enter Try.func36, Try.ntmps36
    go_wp2_with (first
      | (go_at_call 33; refine (implBalance_v s _ rs _ (HV.out.below (by (repeat (first | (with_reducible assumption) | (with_reducible apply below_refl) | (with_reducible apply below_alloc1) | (with_reducible apply below_drewN1) | (with_reducible apply below_drew1)))))).mono ?_; rintro e w' ⟨x, rfl, ho, hb⟩; rw [HOK.out]; have hB : Below w.heap.size w w' := below_trans (by (repeat (first | (with_reducible assumption) | (with_reducible apply below_refl) | (with_reducible apply below_alloc1) | (with_reducible apply below_drewN1) | (with_reducible apply below_drew1)))) hb; clear hb ho))
    go_ret2
    exact numOk_no HM.out (by assumption)
  obtain ⟨l1, l2, l3⟩ := balAll_len hok
  have HOK := hid hok
  have HM := hid (show upM rs s us = if us.length = (balXs (balOf rs s)).length then ifFin (upS (balXs (balOf rs s)) us us.length) else (some 0, false) by unfold upM; rw [hok]; simp)
  clear hok
  obtain ⟨xs, hxs⟩ : ∃ xs, xs = balXs (balOf rs s) := ⟨_, rfl⟩
  rw [← hxs] at l1 l2 l3 HM
  have L1 := hid l1
  clear l1
  have HX := hid hxs
  clear hxs
  by_cases hlen : us.length = xs.length
  · have HM2 := hid (show upM rs s us = ifFin (upS xs us us.length) by rw [HM.out, if_pos hlen])
    have hlenI : (us.length : Int) = (xs.length : Int) := by omega
    go_enter Try.func36, Try.ntmps36
    go_wp2_with (first
      | (go_at_call 33; refine (implBalance_v s _ rs _ (HV.out.below (by (repeat (first | (with_reducible assumption) | (with_reducible apply below_refl) | (with_reducible apply below_alloc1) | (with_reducible apply below_drewN1) | (with_reducible apply below_drew1)))))).mono ?_; rintro e w' ⟨x, rfl, ho, hb⟩; rw [HOK.out]; rw [← HX.out] at ho; obtain ⟨g, cx, e1, -⟩ := slice_of_own ho (by rw [List.length_map]; omega); rw [List.length_map] at e1; subst e1; have HO := hid ho; have hB : Below w.heap.size w w' := below_trans (by (repeat (first | (with_reducible assumption) | (with_reducible apply below_refl) | (with_reducible apply below_alloc1) | (with_reducible apply below_drewN1) | (with_reducible apply below_drew1)))) hb; clear hb ho))
    obtain ⟨wo, hwo⟩ : ∃ wo, wo = w' := ⟨_, rfl⟩
    subst hwo
    obtain rfl := HA.out (by omega)
    have HCO := hid (show ∀ (k : Nat) (hk : k < us.length) (wq : World), Below wo.heap.size wo wq → wq.cell? ⟨b, off + k, none⟩ = some (.bool us[k]) from fun k hk wq hq => rowc HC.out (below_trans hB hq) k hk)
    go_loopw [8, 27] (fun x i wr => ∃ (k q : Nat), k ≤ xs.length ∧ i = .int .i64 k ∧ x = .float .f32 q ∧ Hid (ab .f32 q = upS xs us k) ∧ Below wo.heap.size wo wr) (fun _ i _ => xs.length - (intOf i).toNat)
    case atStart => exact ⟨0, 0, Nat.zero_le _, rfl, rfl, hid ab_z32, by (repeat (first | (with_reducible assumption) | (with_reducible apply below_refl) | (with_reducible apply below_alloc1) | (with_reducible apply below_drewN1) | (with_reducible apply below_drew1)))⟩
    case round =>
      obtain ⟨k, q, hk, rfl, rfl, hq, hwr⟩ := hrel
      by_cases hlt : k < xs.length
      · have hkI : (k : Int) < (xs.length : Int) := by omega
        have hkz : (0 : Int) ≤ (k : Int) := by omega
        have hku : k < us.length := by omega
        have hcu := HCO.out k hku wr hwr
        have ho2 := ownsRow_below HO.out hwr
        have hcx : wr.cell? ⟨g, k, none⟩ = some (.float .f32 xs[k]) := by
          have h := ho2
          rw [List.length_map] at h
          rw [h.cellAt k (by omega)]
          simp [hlt]
        have HN := hid (show upS xs us (k + 1) = if us[k] = true then fop .add .f32 (ab .f32 q) (ab .f32 xs[k]) else ab .f32 q by
          rw [upS_next, ← hq.out, atX_get hlt]
          simp [hku])
        clear ho2
        generalize xs[k] = y at hcx HN
        generalize us[k] = bb at hcu HN
        cases bb
        · go_wp2_with fail
          go_roundw
          case rel => exact ⟨k + 1, q, by omega, by go_num, rfl, hid (by rw [HN.out]; rfl), below_trans hwr (by (repeat (first | (with_reducible assumption) | (with_reducible apply below_refl) | (with_reducible apply below_alloc1) | (with_reducible apply below_drewN1) | (with_reducible apply below_drew1))))⟩
          case measure => simp [intOf]; omega
        · go_wp2_with (refine upon_float rfl ?_; intro r nn hr; go_simp)
          go_roundw
          case rel => exact ⟨k + 1, r, by omega, by go_num, rfl, hid (by rw [HN.out, hr]; rfl), below_trans hwr (by (repeat (first | (with_reducible assumption) | (with_reducible apply below_refl) | (with_reducible apply below_alloc1) | (with_reducible apply below_drewN1) | (with_reducible apply below_drew1))))⟩
          case measure => simp [intOf]; omega
      · obtain rfl : k = xs.length := by omega
        have HF := hid (show ab .f32 q = upS xs us us.length by rw [hlen]; exact hq.out)
        go_wp2_with (first
          | (go_at_call 60; refine (ifFinite_num _ _).mono ?_; rw [HF.out, ← HM2.out]; rintro e w7 ⟨r, rfl, hr, hb7⟩; have HR := hid hr; have HB7 := hid (below_trans (show Below wr.heap.size wr _ by (repeat (first | (with_reducible assumption) | (with_reducible apply below_refl) | (with_reducible apply below_alloc1) | (with_reducible apply below_drewN1) | (with_reducible apply below_drew1)))) hb7); clear hb7 hr))
        go_ret2
        exact ⟨r, rfl, HR.out, below_trans hB (below_trans hwr HB7.out)⟩
  · have HM2 := hid (show upM rs s us = (some 0, false) by rw [HM.out, if_neg hlen])
    have hlenI : ¬ (us.length : Int) = (xs.length : Int) := by omega
    have hlenb : ((us.length : Int) != (xs.length : Int)) = true := by simpa using hlenI
    go_enter Try.func36, Try.ntmps36
    go_wp2_with (first
      | (go_at_call 33; refine (implBalance_v s _ rs _ (HV.out.below (by (repeat (first | (with_reducible assumption) | (with_reducible apply below_refl) | (with_reducible apply below_alloc1) | (with_reducible apply below_drewN1) | (with_reducible apply below_drew1)))))).mono ?_; rintro e w' ⟨x, rfl, ho, hb⟩; rw [HOK.out]; rw [← HX.out] at ho; obtain ⟨g, cx, e1, -⟩ := slice_of_own ho (by rw [List.length_map]; omega); rw [List.length_map] at e1; subst e1; have HO := hid ho; have hB : Below w.heap.size w w' := below_trans (by (repeat (first | (with_reducible assumption) | (with_reducible apply below_refl) | (with_reducible apply below_alloc1) | (with_reducible apply below_drewN1) | (with_reducible apply below_drew1)))) hb; clear hb ho))
    go_ret2
    exact numOk_no HM2.out (by assumption)
end Go.Proofs.Ytkaeohlakeliiaa
