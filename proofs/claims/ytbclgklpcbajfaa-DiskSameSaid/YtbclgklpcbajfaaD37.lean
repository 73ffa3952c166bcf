/- slices.DeleteFunc at []disk.write, by the closure of disk.Disk.Lose. -/
import Derived.Test.YtbclgklpcbajfaaD36
import Derived.Lib.SliceRun
namespace Go.Proofs.Ytbclgklpcbajfaa
open Go.RowKit
set_option linter.unusedSimpArgs false
set_option linter.unusedVariables false

theorem Raw.sets {b : Nat} {t : TypeId} {n : Nat} : ∀ (L : List Value) (o : Nat) (w : World) (f : Nat → Value), Raw w b t n f → (∃ f', Raw (w.setCells b o L) b t n f' ∧ ∀ i, i < o → f' i = f i) ∧ Turn (· = b) w (w.setCells b o L)
  | [], o, w, f, h => ⟨⟨f, h, fun _ _ => rfl⟩, Turn.refl _ _⟩
  | v :: L, o, w, f, h => by
    obtain ⟨⟨f', h1, h2⟩, h3⟩ := Raw.sets L (o + 1) (w.setCell ⟨b, o, none⟩ v) (upd f o v) (h.set o v)
    exact ⟨⟨f', h1, fun i hi => by rw [h2 i (by omega), upd_other _ _ (by omega)]⟩, (Turn.setCell (S := (· = b)) (p := ⟨b, o, none⟩) (Turn.refl _ w) rfl v).trans h3⟩

theorem run_zero97 (w : World) : (zeroValue 97).run Try.prog w = .ok (.agg #[.int .i64 0, .slice none 0 0]) w := by
  obtain ⟨i0, hi, hz0, hz1, hz2⟩ := info_parts info97
  simp [zeroValue, typeInfo, hi, hz0]

/-- clear(s) on some of a row of waiting writes: what stands ahead stays. -/
theorem run_clear97 {w : World} {b N o n c : Nat} {f : Nat → Value} (hr : Raw w b 97 N f) (hn : 0 < n) (ho : o + n * 2 ≤ N) :
    ∃ w' f', (∀ ty, (Builtin.clear_ #[67] ty #[.slice (some ⟨b, o, none⟩) n c]).run Try.prog w = .ok (.tuple #[]) w') ∧ Raw w' b 97 N f' ∧ (∀ i, i < o → f' i = f i) ∧ Turn (· = b) w w' := by
  have hz : (Value.agg #[.int .i64 0, .slice none 0 0]).cells = #[.int .i64 0, .slice none 0 0] := rfl
  have hlen : (Builtin.zeroCells #[Value.int .i64 0, .slice none 0 0] n).toList.length = n * 2 := by simp [Builtin.zeroCells]
  have hone : ∀ v ∈ (Builtin.zeroCells #[Value.int .i64 0, .slice none 0 0] n).toList, v.oneCell' = true := by
    intro v hv
    simp only [Builtin.zeroCells, Array.toList_map, List.mem_map] at hv
    obtain ⟨i, _, rfl⟩ := hv
    rcases Nat.mod_two_eq_zero_or_one i with h | h
    · show (#[Value.int .i64 0, .slice none 0 0][i % 2]!).oneCell' = true
      rw [h]; rfl
    · show (#[Value.int .i64 0, .slice none 0 0][i % 2]!).oneCell' = true
      rw [h]; rfl
  have hst := run_storeCells_cells (P := Try.prog) b o (Builtin.zeroCells #[Value.int .i64 0, .slice none 0 0] n).toList 0 w (by
    intro j hj
    rw [hlen] at hj
    rw [Nat.add_zero, hr.cell (o + j) (by omega)]; rfl) (by
    intro j hj
    exact hr.frozen _) hone
  simp only [Nat.add_zero] at hst
  obtain ⟨⟨f', h1, h2⟩, h3⟩ := hr.sets (Builtin.zeroCells #[Value.int .i64 0, .slice none 0 0] n).toList o
  refine ⟨_, f', fun ty => ?_, h1, h2, h3⟩
  obtain ⟨m, rfl⟩ : ∃ m, n = m + 1 := ⟨n - 1, by omega⟩
  simp [Builtin.clear_, run_underlying Try.underlying67, run_zero97, hz, hst]

/-- The row while it is rewritten: j writes looked at, i kept. -/
structure Del (w1 wr : World) (g N : Nat) (Z : Zs) (m j i : Nat) : Prop where
  len : i = (othersZ m (Z.take j)).length
  lt : i < j
  lies : ∃ F, Raw wr g 97 N F ∧ (∀ t, t < i * 2 → (encZ (othersZ m (Z.take j)))[t]? = some (F t)) ∧ ∀ t, j * 2 ≤ t → t < Z.length * 2 → (encZ Z)[t]? = some (F t)
  turn : Turn (· = g) w1 wr
theorem Del.new {w1 wr w2 : World} {g N m j i : Nat} {Z : Zs} (h : Del w1 wr g N Z m j i) (hn : New wr w2) : Del w1 w2 g N Z m j i := by
  obtain ⟨h1, h2, ⟨F, h3, h4⟩, h5⟩ := h
  exact ⟨h1, h2, ⟨F, h3.turn (Turn.of_new (S := fun _ => False) hn) (fun h => h), h4⟩, h5.trans (Turn.of_new hn)⟩
theorem take_snoc {α : Type} {l : List α} {j : Nat} (h : j < l.length) : l.take (j + 1) = l.take j ++ [l[j]] := (List.take_append_getElem h).symm
theorem Del.skip {w1 wr : World} {g N m j i : Nat} {Z : Zs} (h : Del w1 wr g N Z m j i) (hj : j < Z.length) (hm : Z[j].1.1 = m) : Del w1 wr g N Z m (j + 1) i := by
  obtain ⟨h1, h2, ⟨F, h3, h4, h6⟩, h5⟩ := h
  have e : othersZ m (Z.take (j + 1)) = othersZ m (Z.take j) := by rw [take_snoc hj, othersZ_no hm]
  exact ⟨by rw [e]; exact h1, by omega, ⟨F, h3, by rw [e]; exact h4, fun t a b => h6 t (by omega) b⟩, h5⟩
theorem Del.keep {w1 wr : World} {g N m j i : Nat} {Z : Zs} (h : Del w1 wr g N Z m j i) (hj : j < Z.length) (hm : Z[j].1.1 ≠ m) :
    Del w1 ((wr.setCell ⟨g, i * 2, none⟩ (.int .i64 (Z[j].1.1 : Int))).setCell ⟨g, i * 2 + 1, none⟩ Z[j].2) g N Z m (j + 1) (i + 1) := by
  obtain ⟨h1, h2, ⟨F, h3, h4, h6⟩, h5⟩ := h
  have e : othersZ m (Z.take (j + 1)) = othersZ m (Z.take j) ++ [Z[j]] := by rw [take_snoc hj, othersZ_yes hm]
  have hl : (encZ (othersZ m (Z.take j))).length = i * 2 := by rw [encZ_length, ← h1]
  refine ⟨by rw [e]; simp [h1], by omega, ⟨_, (h3.set (i * 2) _).set (i * 2 + 1) _, fun t ht => ?_, fun t a b => ?_⟩, ?_⟩
  · rw [e, encZ_snoc]
    rcases Nat.lt_or_ge t (i * 2) with h | h
    · rw [List.getElem?_append_left (by omega), upd_other _ _ (by omega), upd_other _ _ (by omega)]
      exact h4 t h
    · rw [List.getElem?_append_right (by omega), hl]
      have : t = i * 2 ∨ t = i * 2 + 1 := by omega
      rcases this with rfl | rfl
      · rw [upd_other _ _ (by omega), upd_same]; simp
      · rw [upd_same]; simp
  · rw [upd_other _ _ (by omega), upd_other _ _ (by omega)]
    exact h6 t (by omega) b
  · exact (h5.setCell (p := ⟨g, i * 2, none⟩) rfl _).setCell (p := ⟨g, i * 2 + 1, none⟩) rfl _
/-- The row cut to what was kept. -/
theorem Raw.row {w : World} {g N c n : Nat} {F : Nat → Value} {xs : List Value} (hr : Raw w g 97 N F) (hN : N = c * 2) (hc : n ≤ c) (hm : c ≤ maxLen) (hx : xs.length = n * 2) (h : ∀ t, t < n * 2 → xs[t]? = some (F t)) :
    w.ownsRow 0 97 2 (.slice (some ⟨g, 0, none⟩) n c) n xs := by
  obtain ⟨cs, h1, h2, h3⟩ := hr
  refine ⟨hx, .inr ⟨g, c, cs, rfl, Nat.zero_le _, h1, hc, hm, by omega, ?_⟩⟩
  apply List.ext_getElem?
  intro t
  rcases Nat.lt_or_ge t (n * 2) with ht | ht
  · rw [List.getElem?_take, if_pos ht, h t ht, Array.getElem?_toList, h3 t (by omega)]
  · rw [List.getElem?_eq_none (by rw [List.length_take]; omega), List.getElem?_eq_none (by omega)]

set_option maxHeartbeats 4000000 in
set_option maxRecDepth 100000 in
theorem del_any (v : Value) (ow : Option Nat) (l : List (Nat × ByteArray)) (m gb : Nat) (w : World) (h : Waits w v ow l) (hb : w.heap[gb]? = some (.cells #[.int .i64 (m : Int)] 3 (0, 0))) (hl : l.length ≤ 100000000) :
    Calls Try.prog 99 #[v, .func (.func 100) #[] #[.pointer (some ⟨gb, 0, none⟩)]] w fun e w' => ∃ p c, e = .returned (.slice p (others m l).length c) ∧ Waits w' (.slice p (others m l).length c) ow (others m l) ∧ Turn (fun k => ow = some k) w w' := by
  obtain ⟨xs, hx, hc⟩ := h.cells
  obtain ⟨Z, e1, e2, hz⟩ := hc.zs
  subst e2
  have hcb : w.cell? ⟨gb, 0, none⟩ = some (.int .i64 (m : Int)) := by simp only [World.cell?, hb]; rfl
  have hgb : gb < w.heap.size := World.block_lt_of_cell? w _ hcb
  have hZl : Z.length = l.length := by rw [← e1]; simp
  have hoth : others m l = (othersZ m Z).map (·.1) := by rw [othersZ_map, e1]
  have hblk := h.blk
  rw [← hZl] at hx
  rw [← e1] at h
  have HH := hid h
  have HX := hid hx
  have HZ := hid hz
  have HOTH := hid hoth
  have HE1 := hid e1
  have hl' : Z.length ≤ 100000000 := by omega
  have HBL := hid hblk
  obtain ⟨q, k, rfl⟩ : ∃ q k, v = .slice q Z.length k := by
    rcases hx.2 with ⟨rfl, e⟩ | ⟨g, cap, cur, rfl, _⟩
    · exact ⟨_, _, by rw [e]⟩
    · exact ⟨_, _, rfl⟩
  clear h hx hc hz hoth e1 hl hZl hblk
  go_enter Try.func99, Try.ntmps99
  go_wp2_with fail
  refine (idx_any _ Z m gb w HX.out HZ.out hcb (by omega)).mono ?_
  rintro e w1 ⟨hn1, ⟨rfl, hno⟩ | ⟨i0, hi0, rfl, hfound, hbefore⟩⟩
  · have HFIN : Hid (others m l = l) := hid (by rw [HOTH.out, othersZ_all hno, HE1.out])
    have HN1 := hid hn1
    clear hn1 hno
    go_wp2
    go_ret
    have hlen : Z.length = (others m l).length := by rw [HFIN.out, ← HE1.out]; simp
    rw [hlen]
    refine ⟨q, k, rfl, ?_, Turn.of_new HN1.out⟩
    rw [HFIN.out]
    have := HH.out.turn (Turn.of_new (S := fun _ => False) HN1.out) (apart_none w) (fun _ _ h => h)
    rw [HE1.out] at this
    rw [hlen, HFIN.out] at this
    exact this
  · have hcb1 := hcb
    rw [← hn1.cell _ _ hgb] at hcb1
    have hb1 : w1.heap[gb]? = some (.cells #[.int .i64 (m : Int)] 3 (0, 0)) := by rw [hn1.block gb hgb]; exact hb
    obtain ⟨g, cap, cur, e, _, hh, g1, g2, g3, g4⟩ : ∃ g cap cur, Value.slice q Z.length k = .slice (some ⟨g, 0, none⟩) Z.length cap ∧ 0 ≤ g ∧ w1.heap[g]? = some (.cells cur 97 (0, 0)) ∧ Z.length ≤ cap ∧ cap ≤ maxLen ∧ cur.size = cap * 2 ∧ cur.toList.take (Z.length * 2) = encZ Z := by
      rcases (own_old HX.out hn1).2 with ⟨_, h0⟩ | h
      · omega
      · exact h
    injection e with e1 _ e3
    subst e1 e3
    have hne : gb ≠ g := fun e => by subst e; exact types_ne hb1 hh (by decide)
    have hgl : g < w1.heap.size := (Array.getElem?_eq_some_iff.1 hh).1
    have hF : ∀ t, t < Z.length * 2 → (encZ Z)[t]? = some (cur[t]?.getD undef) := fun t ht => by
      rw [← g4, List.getElem?_take, if_pos ht, Array.getElem?_toList, Array.getElem?_eq_getElem (by omega)]
      rfl
    have hI : Z.take (i0 + 1) = Z.take i0 ++ [Z[i0]] := take_snoc hi0
    have hO : othersZ m (Z.take (i0 + 1)) = Z.take i0 := by
      rw [hI, othersZ_no hfound, othersZ_all]
      intro z hz
      obtain ⟨t, ht, rfl⟩ := List.mem_iff_getElem.1 hz
      rw [List.length_take] at ht
      rw [List.getElem_take]
      exact hbefore t (by omega)
    have S1 : Hid (Del w1 w1 g (k * 2) Z m (i0 + 1) i0) := hid (by
      refine ⟨by rw [hO, List.length_take]; omega, by omega, ⟨fun t => cur[t]?.getD undef, ⟨cur, hh, g3, fun t ht => by simp only [Array.getElem?_eq_getElem (show t < cur.size by omega), Option.getD_some]⟩, fun t ht => ?_, fun t _ ht => hF t ht⟩, Turn.refl _ _⟩
      rw [hO, ← hF t (by omega)]
      have : encZ Z = encZ (Z.take i0) ++ encZ (Z.drop i0) := by
        simp only [encZ]; rw [← List.flatMap_append, List.take_append_drop]
      rw [this, List.getElem?_append_left (by rw [encZ_length, List.length_take]; omega)])
    have G2 := hid g2
    have HHP := hid hh
    have HN1 := hid hn1
    have hk2 : k ≤ 2 ^ 63 - 1 := by unfold maxLen at g2; exact g2
    clear hfound hbefore hn1 hF hI hO hh g2 g3 g4 hb1
    have hm1 : ((i0 : Int) == -1) = false := by simp
    go_wp2
    clear hm1
    go_loopw [5, 6, 7] (fun i j _ wr => ∃ jn n : Nat, jn ≤ Z.length ∧ j = .int .i64 jn ∧ i = .int .i64 n ∧ Hid (Del w1 wr g (k * 2) Z m jn n)) (fun _ j _ _ => Z.length - (intOf j).toNat)
    case atStart => exact ⟨i0 + 1, i0, by omega, by go_num, rfl, S1⟩
    case round =>
      clear S1
      obtain ⟨j, n, hj, rfl, rfl, hL⟩ := hrel
      have hij := hL.out.lt
      obtain ⟨F, hr, _, hhi⟩ := hL.out.lies
      have hcbr : wr.cell? ⟨gb, 0, none⟩ = some (.int .i64 (m : Int)) := by
        rw [World.cell?_of_block (w := w1) (a := ⟨gb, 0, none⟩) (hL.out.turn.block gb (Nat.lt_of_lt_of_le hgb HN1.out.size) hne)]
        exact hcb1
      have hgbr : gb < wr.heap.size := World.block_lt_of_cell? wr _ hcbr
      have hglr : g < wr.heap.size := hr.lt
      by_cases hlt : j < Z.length
      · obtain ⟨x0, x1⟩ := encZ_get Z j hlt
        have d0 := hr.cell (j * 2) (by omega)
        have d1 := hr.cell (j * 2 + 1) (by omega)
        rw [hhi (j * 2) (by omega) (by omega)] at x0
        rw [hhi (j * 2 + 1) (by omega) (by omega)] at x1
        injection x0 with x0
        injection x1 with x1
        rw [x0] at d0
        rw [x1] at d1
        obtain ⟨⟨p2, c2, e2, _⟩, _⟩ := HZ.out Z[j] (List.getElem_mem hlt)
        rw [e2] at d1
        have hi0' := hr.cell (n * 2) (by omega)
        have hi1' := hr.cell (n * 2 + 1) (by omega)
        have zi0 := hr.frozen (n * 2)
        have zi1 := hr.frozen (n * 2 + 1)
        clear x0 x1 hr hhi
        by_cases e3 : Z[j].1.1 = m
        · have t3 : decide ((Z[j].1.1 : Int) = (m : Int)) = true := by simp [e3]
          have HNX := hid (hL.out.skip hlt e3)
          clear e3 e2 hL
          generalize hx : Z[j].1.1 = x at *
          generalize hx2 : Z[j].1.2 = x2 at *
          clear hx hx2
          go_wp2_with fail
          refine (lose1_any _ _ _ _ _ gb _ (((New.refl wr).alloc _ _).cell _ _ hgbr |>.trans hcbr) (by simp; omega)).mono ?_
          rintro e w2 ⟨rfl, hn2⟩
          rw [t3]
          have HN2 := hid (((New.refl wr).alloc _ _).trans hn2)
          clear hn2
          go_wp2
          go_roundw
          case rel =>
            exact ⟨j + 1, n, by omega, by go_num, rfl, hid (HNX.out.new HN2.out)⟩
          case measure => simp [intOf]; omega
        · have t3 : decide ((Z[j].1.1 : Int) = (m : Int)) = false := by simp; omega
          have HNE := hid e3
          have HNX := hid (fun (w2 : World) (hn : New wr w2) => (hL.out.new hn).keep hlt HNE.out)
          rw [e2] at HNX
          clear e3 e2 hL
          generalize hx : Z[j].1.1 = x at *
          generalize hx2 : Z[j].1.2 = x2 at *
          clear hx hx2
          go_wp2_with fail
          refine (lose1_any _ _ _ _ _ gb _ (((New.refl wr).alloc _ _).cell _ _ hgbr |>.trans hcbr) (by simp; omega)).mono ?_
          rintro e w2 ⟨rfl, hn2⟩
          rw [t3]
          have ml := hn2.made.1
          have hn3 := ((New.refl wr).alloc #[Value.int .i64 x, .slice p2 x2.size c2] 97).trans hn2
          rw [← hn3.cell _ _ hglr] at hi0' hi1'
          rw [← (bcell hn3).2 _ _ hglr] at zi0 zi1
          have hgl3 : g < w2.heap.size := Nat.lt_of_lt_of_le hglr hn3.size
          have HN3 := hid hn3
          clear hn2 hn3
          go_wp2
          go_roundw
          case rel => exact ⟨j + 1, n + 1, by omega, by go_num, by go_num, hid (HNX.out w2 HN3.out)⟩
          case measure => simp [intOf]; omega
      · obtain rfl : j = Z.length := by omega
        obtain ⟨w5, F5, hcl, hr5, hF5, ht5⟩ := run_clear97 (n := Z.length - n) (c := k - n) hr (o := n * 2) (by omega) (by omega)
        have hlen := hL.out.len
        rw [List.take_length] at hlen
        obtain ⟨F6, hr6, hlo6, _⟩ := hL.out.lies
        rw [List.take_length] at hlo6
        have hFF : ∀ t, t < n * 2 → F t = F6 t := fun t ht => by
          have a := hr.cell t (by omega)
          have b := hr6.cell t (by omega)
          rw [a] at b
          injection b
        have hrow : w5.ownsRow 0 97 2 (.slice (some ⟨g, 0, none⟩) n k) n (encZ (othersZ m Z)) := hr5.row rfl (by omega) G2.out (by rw [encZ_length, ← hlen]) (fun t ht => by rw [hF5 t ht, hFF t ht]; exact hlo6 t ht)
        have htt : Turn (fun k' => ow = some k') w w5 := (Turn.of_new HN1.out).trans ((hL.out.turn.trans ht5).mono fun k' _ h => by rw [← HBL.out, h]; rfl)
        have hap : Apart (fun k' => ow = some k') w := by
          have := apart_own HX.out (by decide)
          intro k' c' fr' hk' e'
          exact this k' c' fr' (HBL.out.trans hk') e'
        have hcells : ZsAt w5 (othersZ m Z) := fun z hz => (HZ.out z ((List.mem_filter.1 hz).1)).turn htt hap
        have hlo : (others m l).length = n := by rw [HOTH.out, hlen]; simp
        have HFIN : Hid (Waits w5 (.slice (some ⟨g, 0, none⟩) n k) ow (others m l)) := hid ⟨⟨encZ (othersZ m Z), by rw [hlo]; exact hrow, by rw [HOTH.out]; exact hcells.cells.2⟩, HBL.out⟩
        have HTT := hid htt
        have HLO := hid hlo
        clear hr hhi hr6 hlo6 hFF hrow htt hap hcells hlo hr5 hF5 ht5 hlen hL
        go_wp2
        go_ret
        rw [HLO.out]
        exact ⟨some ⟨g, 0, none⟩, k, rfl, HFIN.out, HTT.out⟩

end Go.Proofs.Ytbclgklpcbajfaa
