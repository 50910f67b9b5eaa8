/- slices.Repeat of one number. -/
import Derived.Laws.IdiomCopy
import Derived.Test.YtfnhpchgiknmpaaChain4
import Derived.Test.YtfnhpchgiknmpaaGrid
namespace Go.Proofs.Ytfnhpchgiknmpaa
open Go.RowKit

theorem own_setCells {E : TypeId} {lo g cap : Nat} : ∀ (vs : List Value) (o : Nat) (w : World) (n : Nat) (xs : List Value), o + vs.length ≤ xs.length → w.ownsRow lo E 1 (.slice (some ⟨g, 0, none⟩) n cap) n xs →
    (w.setCells g o vs).ownsRow lo E 1 (.slice (some ⟨g, 0, none⟩) n cap) n (xs.take o ++ vs ++ xs.drop (o + vs.length)) ∧ w.grownBy (w.setCells g o vs) (some g)
  | [], o, w, n, xs, _, h => by
    refine ⟨?_, ?_⟩
    · simpa [World.setCells] using h
    · exact ⟨rfl, rfl, rfl, Nat.le_refl _, fun _ _ _ => rfl⟩
  | v :: r, o, w, n, xs, hl, h => by
    have hst := h.stored o v
    simp only [List.length_cons] at hl
    obtain ⟨h1, h2⟩ := own_setCells r (o + 1) (w.setCell ⟨g, o, none⟩ v) n (xs.set o v) (by rw [List.length_set]; omega) hst.1
    refine ⟨?_, hst.2.trans h2⟩
    show ((w.setCell ⟨g, o, none⟩ v).setCells g (o + 1) r).ownsRow _ _ _ _ _ _
    have e : (xs.set o v).take (o + 1) ++ r ++ (xs.set o v).drop (o + 1 + r.length) = xs.take o ++ (v :: r) ++ xs.drop (o + (v :: r).length) := by
      apply List.ext_getElem?
      intro j
      simp only [List.getElem?_append, List.getElem?_take, List.getElem?_drop, List.getElem?_set, List.length_append, List.length_take, List.length_set, List.length_cons, List.getElem?_cons]
      by_cases c1 : j < o
      · simp [show j < min (o + 1) xs.length + r.length by omega, show j < min (o + 1) xs.length by omega, show j < min o xs.length + (r.length + 1) by omega, show j < min o xs.length by omega, c1, show j < o + 1 by omega, show ¬ o = j by omega]
      · by_cases c2 : j = o
        · subst c2
          simp [show j < min (j + 1) xs.length + r.length by omega, show j < min (j + 1) xs.length by omega, show j < min j xs.length + (r.length + 1) by omega, show ¬ j < min j xs.length by omega, show j < xs.length by omega, show j - min j xs.length = 0 by omega]
        · by_cases c3 : j < o + 1 + r.length
          · simp [show j < min (o + 1) xs.length + r.length by omega, show ¬ j < min (o + 1) xs.length by omega, show j < min o xs.length + (r.length + 1) by omega, show ¬ j < min o xs.length by omega, show ¬ j - min o xs.length = 0 by omega, show j - min (o + 1) xs.length = j - min o xs.length - 1 by omega]
          · simp [show ¬ j < min (o + 1) xs.length + r.length by omega, show ¬ j < min o xs.length + (r.length + 1) by omega, show o + 1 + r.length + (j - (min (o + 1) xs.length + r.length)) = o + (r.length + 1) + (j - (min o xs.length + (r.length + 1))) by omega, show ¬ o = o + (r.length + 1) + (j - (min o xs.length + (r.length + 1))) by omega]
    rw [← e]
    exact h1
set_option maxRecDepth 100000 in
set_option maxHeartbeats 1600000 in
theorem mul64_any (m : Nat) (h1 : 2 ≤ m) (h9 : m ≤ 9) (w : World) :
    Calls Try.prog 94 #[.int .u64 1, .int .u64 m] w fun e w' => e = .returned (.tuple #[.int .u64 0, .int .u64 m]) ∧ w' = w := by
  have hm : m = 2 ∨ m = 3 ∨ m = 4 ∨ m = 5 ∨ m = 6 ∨ m = 7 ∨ m = 8 ∨ m = 9 := by omega
  rcases hm with rfl | rfl | rfl | rfl | rfl | rfl | rfl | rfl
  all_goals
    clear h1 h9
    go_enter Try.func94, Try.ntmps94
    go_wp2_with fail
    go_ret2
    exact ⟨rfl, rfl⟩
set_option maxRecDepth 100000 in
set_option maxHeartbeats 800000 in
theorem mul_any (m : Nat) (h1 : 2 ≤ m) (h9 : m ≤ 9) (w : World) :
    Calls Try.prog 80 #[.int .u64 1, .int .u64 m] w fun e w' => e = .returned (.tuple #[.int .u64 0, .int .u64 m]) ∧ w' = w := by
  go_enter Try.func80, Try.ntmps80
  go_wp2_with (go_at_call 94; refine (mul64_any _ h1 h9 _).mono ?_; rintro e w' ⟨rfl, rfl⟩)
  go_ret2
  exact ⟨rfl, rfl⟩
theorem below_cells {B : Nat} {a : World} (b : Nat) (hb : B ≤ b) : ∀ (vs : List Value) (o : Nat) {w : World}, Below B a w → Below B a (w.setCells b o vs)
  | [], _, _, h => h
  | v :: r, o, _, h => below_cells b hb r (o + 1) (h.setCell (p := ⟨b, o, none⟩) hb v)
theorem upon_copyOwn {P : Program} {o : Oper} {a : Act} {K : Act → World → Prop} {Q : Exit → Act → World → Prop} {w : World} {E T ty : TypeId} {lo G m cap : Nat} {xs : List Value} (cs : List Value) {k dLen dCap sLen sCap : Nat} {p : Addr}
    (hu : P.underlying T = some (.slice E)) (hs : (P.info? E).map (·.size) = some 1) (how : w.ownsRow lo E 1 (.slice (some ⟨G, 0, none⟩) m cap) m xs) (hn : cs.length = Nat.min sLen dLen) (hfit : k + cs.length ≤ m)
    (hsrc : ∀ j v, cs[j]? = some v → w.cell? (p.add j) = some v) (h1 : ∀ v ∈ cs, v.oneCell' = true)
    (h : ∀ w', w'.ownsRow lo E 1 (.slice (some ⟨G, 0, none⟩) m cap) m (xs.take k ++ cs ++ xs.drop (k + cs.length)) → w.grownBy w' (some G) → K (a.put o.dst (goInt cs.length)) w') :
    Oper.upon P o a K Q ((Sem.run P (Builtin.copy_ #[T, T] ty #[.slice (some ⟨G, k, none⟩) dLen dCap, .slice (some p) sLen sCap]) w).andThen fun v w' => Result.ok (Next.value v) w') := by
  have hlen : xs.length = m := by simpa using how.1
  rw [run_copy_cells (P := P) w T T ty E G k dLen dCap p sLen sCap cs hu hs hn hsrc (fun j hj => by rw [how.cellAt (k + j) (by omega), List.getElem?_eq_getElem (by omega)]; rfl) (fun j _ => how.frozenAt (k + j)) h1]
  have := own_setCells cs k w m xs (by omega) how
  exact h _ this.1 this.2
theorem step_copyOwn {P : Program} {ops : Array Oper} {o : Oper} {a : Act} {K : Act → World → Prop} {Q : Exit → Act → World → Prop} {H : Prop} {w : World} {E T : TypeId} {lo G m cap : Nat} {xs : List Value} (hgd : o.guard = none) (d s : Operand)
    (ho : o.op = .call { callee := .builtin .copy, args := #[d, s], argTypes := #[T, T] }) (cs : List Value) {k dLen dCap sLen sCap : Nat} {p : Addr} (hd : a.eval d = .slice (some ⟨G, k, none⟩) dLen dCap) (hsv : a.eval s = .slice (some p) sLen sCap)
    (hu : P.underlying T = some (.slice E)) (hs : (P.info? E).map (·.size) = some 1) (how : w.ownsRow lo E 1 (.slice (some ⟨G, 0, none⟩) m cap) m xs) (hn : cs.length = Nat.min sLen dLen) (hfit : k + cs.length ≤ m)
    (hsrc : ∀ j v, cs[j]? = some v → w.cell? (p.add j) = some v) (h1 : ∀ v ∈ cs, v.oneCell' = true)
    (h : ∀ w', w'.ownsRow lo E 1 (.slice (some ⟨G, 0, none⟩) m cap) m (xs.take k ++ cs ++ xs.drop (k + cs.length)) → w.grownBy w' (some G) → K (a.put o.dst (goInt cs.length)) w') :
    if Region.wanted o (yielded ops a.tmps) = true then Oper.wp P o a w K Q else H := by
  have hw : Region.wanted o (yielded ops a.tmps) = true := by simp [Region.wanted, hgd]
  rw [if_pos hw]
  have := upon_copyOwn (o := o) (a := a) (K := K) (Q := Q) (ty := o.type) cs (dCap := dCap) (sCap := sCap) hu hs how hn hfit hsrc h1 h
  unfold Oper.wp execOp
  simp only [ho, resolve, invoke, builtin, Sem.run_bind, Sem.run_pure, Result.andThen_ok, List.map_toArray, List.map_cons, List.map_nil, hd, hsv]
  exact this
theorem src_one {w : World} {p : Addr} {u : Value} (h : w.cell? p = some u) : ∀ (j : Nat) (v : Value), [u][j]? = some v → w.cell? (p.add j) = some v := by
  intro j v hj
  cases j with
  | zero =>
    simp at hj
    subst hj
    simpa [Addr.add] using h
  | succ j => simp at hj
theorem below_cell {w w' : World} {p : Addr} {u : Value} (h : w.cell? p = some u) (hb : Below w.heap.size w w') : w'.cell? p = some u := by
  rw [hb.cell (World.block_lt_of_cell? w _ h)]; exact h
theorem below_grown {w1 w w' : World} {B b : Nat} (h : Below B w1 w) (hg : w.grownBy w' (some b)) (hB : B ≤ w.heap.size) (hb : B ≤ b) : Below B w1 w' := h.grown hg hB (fun k hk => by
  have := Option.some.inj hk
  omega)
/-- The first k of m numbers are filled. -/
def filled (x m k : Nat) : List Value := List.replicate k (Value.float .f32 x) ++ List.replicate (m - k) (Value.float .f32 0)
theorem filled_len {x m k : Nat} (h : k ≤ m) : (filled x m k).length = m := by simp [filled]; omega
theorem filled_next {x m k c : Nat} (h : k + c ≤ m) : (filled x m k).take k ++ List.replicate c (Value.float .f32 x) ++ (filled x m k).drop (k + c) = filled x m (k + c) := by
  unfold filled
  rw [List.take_left' (by simp), List.drop_append, List.drop_eq_nil_of_le (by simp), List.nil_append, List.drop_replicate, List.length_replicate, List.replicate_append_replicate, show m - k - (k + c - k) = m - (k + c) by omega]
theorem filled_at {x m k j : Nat} (h : j < k) : (filled x m k)[j]? = some (Value.float .f32 x) := by
  unfold filled
  rw [List.getElem?_append_left (by simpa using h)]
  simp [h]
set_option maxRecDepth 100000 in
set_option maxHeartbeats 1600000 in
theorem repeat_any (v : Value) (x m : Nat) (h1 : 2 ≤ m) (h9 : m ≤ 9) (w : World) (hv : RowAt w v ([x].map (Value.float .f32))) :
    Calls Try.prog 52 #[v, .int .i64 m] w (RowOk 44 ((List.replicate m x).map (Value.float .f32)) w) := by
  obtain ⟨i0, hi, hz0, hz1, hz2⟩ := info_parts (P := Try.prog) (e := 44) (z := Value.float .f32 0) (size := 1) (bytes := 4) (by kernel_rfl)
  obtain ⟨ao, cap, b, off, rfl, hao, hl, hm, hc⟩ := hv
  simp only [List.length_map, List.length_cons, List.length_nil] at hao hl ⊢
  unfold maxLen at hm
  obtain rfl := hao (by omega)
  have hcell := hc 0 (.float .f32 x) rfl
  rw [Nat.add_zero] at hcell
  have HC := hid hcell
  clear hc hao hcell
  have W1 : IntKind.u64.wrap (m : Int) = (m : Int) := by rw [IntKind.wrap_u64]; omega
  have W2 : IntKind.i64.wrap (m : Int) = (m : Int) := by rw [IntKind.wrap_i64]; omega
  have g1 : ¬ (m : Int) < 0 := by omega
  have g2 : ¬ (9223372036854775807 : Int) < (m : Int) := by omega
  go_enter Try.func52, Try.ntmps52
  go_wp2_with (first
    | (go_at_call 80; refine (mul_any m h1 h9 _).mono ?_; rintro e w' ⟨rfl, hww⟩; rw [hww]; clear hww)
    | (at_make; refine wpList_make_full _ rfl _ _ 30 rfl w.heap.size 44 i0 (Value.float .f32 0) 1 Try.underlying30 hi hz0 hz1 _ _ _ _ m rfl rfl rfl rfl (by rw [hz2]; omega) (by simp only [maxLen]; omega) (Nat.le_refl _) ?_; intro w1 hown hgrow; simp only [Nat.mul_one] at hown; rw [show (Value.float .f32 0).cells = #[Value.float .f32 0] from rfl, toList_madeCells_one] at hown; have HOWN := hid (show w1.ownsRow w.heap.size 44 1 (.slice (some ⟨w.heap.size, 0, none⟩) m m) m (filled x m 0) from (by unfold filled; simpa using hown)); have hb1 : Below w.heap.size w w1 := wrote_below (u := .slice none 0 0) hgrow (by simp [Value.ownBlock]) (Nat.le_refl _); have HS := hid (src_one (below_cell HC.out hb1)); clear hown hgrow)
    | (refine upon_copyOwn [.float .f32 x] Try.underlying30 (by kernel_rfl) HOWN.out (Nat.min_eq_left (show 1 ≤ m by omega)).symm (show 0 + 1 ≤ m by omega) HS.out (by simp [Value.oneCell']) ?_; intro w2 hown2 hgr2; have HOWN2 := hid hown2; have hb2 : Below w.heap.size w w2 := below_grown hb1 hgr2 hb1.size (Nat.le_refl _); clear hown2 hgr2; rw [show goInt ([Value.float .f32 x] : List Value).length = .int .i64 1 from rfl]; go_simp))
  go_loopw [8] (fun i wr => ∃ k : Nat, 1 ≤ k ∧ k ≤ m ∧ i = .int .i64 k ∧ Hid (wr.ownsRow w.heap.size 44 1 (.slice (some ⟨w.heap.size, 0, none⟩) m m) m (filled x m k)) ∧ Below w.heap.size w wr) (fun i _ => m - (intOf i).toNat)
  case atStart => exact ⟨1, Nat.le_refl _, by omega, rfl, hid (by have h := HOWN2.out; rw [show ([Value.float .f32 x] : List Value) = List.replicate 1 (Value.float .f32 x) from rfl, List.length_replicate] at h; have e := filled_next (x := x) (m := m) (k := 0) (c := 1) (by omega); rw [e] at h; exact h), hb2⟩
  case round =>
    obtain ⟨k, hk1, hkm, rfl, ho, hb⟩ := hrel
    by_cases hlt : k < m
    · have hkI : (k : Int) < (m : Int) := by omega
      have hkz : (0 : Int) ≤ (k : Int) := by omega
      go_wp2_with fail
      have W3 : IntKind.i64.wrap (m : Int) = (m : Int) := by rw [IntKind.wrap_i64]; omega
      have hne : ¬ m = k := by omega
      obtain ⟨c, hc⟩ : ∃ c, c = Nat.min k (m - k) := ⟨_, rfl⟩
      have hc1 : 1 ≤ c ∧ k + c ≤ m ∧ c ≤ k := by
        have hc' : c = min k (m - k) := hc
        omega
      have W4 : IntKind.i64.wrap ((k : Int) + (c : Int)) = (k : Int) + (c : Int) := by rw [IntKind.wrap_i64]; omega
      have HCE := hid (show (List.replicate c (Value.float .f32 x)).length = Nat.min k (m - k) by rw [List.length_replicate, hc])
      have HCO := hid (show (List.replicate c (Value.float .f32 x)).length = c from List.length_replicate)
      have HSRC := hid (show ∀ (j : Nat) (v : Value), (List.replicate c (Value.float .f32 x))[j]? = some v → wr.drew.cell? ((⟨w.heap.size, 0, none⟩ : Addr).add j) = some v from fun j v hj => by
        have hjc : j < c := by simpa using (List.getElem?_eq_some_iff.1 hj).1
        rw [List.getElem?_replicate, if_pos hjc] at hj
        have e : (⟨w.heap.size, 0, none⟩ : Addr).add j = ⟨w.heap.size, j, none⟩ := by unfold Addr.add; split <;> simp_all
        rw [e]
        show wr.cell? _ = _
        rw [ho.out.cellAt j (by omega), filled_at (by omega)]
        exact hj)
      have HFIT := hid (show k + (List.replicate c (Value.float .f32 x)).length ≤ m by rw [List.length_replicate]; omega)
      have HONE := hid (show ∀ v ∈ List.replicate c (Value.float .f32 x), v.oneCell' = true from fun v hv => by
        rw [List.eq_of_mem_replicate hv]; rfl)
      clear hc
      go_region_law (first
        | (refine step_copyOwn rfl _ _ rfl (List.replicate c (Value.float .f32 x)) (by simp [Act.eval, Act.put]; rfl) (by simp [Act.eval, Act.put]; rfl) Try.underlying30 (by kernel_rfl) (ownsRow_below ho.out (by (repeat (first | (with_reducible assumption) | (with_reducible apply below_refl) | (with_reducible apply below_alloc1) | (with_reducible apply below_drewN1) | (with_reducible apply below_drew1))))) HCE.out HFIT.out HSRC.out HONE.out ?_; intro w3 hown3 hgr3; rw [show goInt (List.replicate c (Value.float .f32 x)).length = .int .i64 (c : Int) by (rw [HCO.out]; rfl)]; have HOWN3 := hid hown3; have hb3 : Below w.heap.size w w3 := below_grown (below_trans hb (below_drew _)) hgr3 (below_trans hb (below_drew _)).size (Nat.le_refl _); clear hown3 hgr3))
      go_simp
      go_roundw
      case rel =>
        refine ⟨_, _, _, _, _, _, _, _, _, _, _, _, _, _, ?_, rfl⟩
        refine ⟨k + c, by omega, hc1.2.1, by go_num, hid ?_, hb3⟩
        have h := HOWN3.out
        rw [HCO.out, filled_next hc1.2.1] at h
        exact h
      case measure => simp [intOf]; omega
    · obtain rfl : k = m := by omega
      go_wp2_with fail
      go_ret
      refine ⟨_, rfl, ?_, hb⟩
      have h := ho.out
      unfold filled at h
      rw [Nat.sub_self, List.replicate_zero, List.append_nil] at h
      simpa using h
end Go.Proofs.Ytfnhpchgiknmpaa
