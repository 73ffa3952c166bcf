/- What progenyref03.Valid returns at a mark; and at each record (printed by rvalid6.py). -/
import Derived.Test.YtbclgklpcbajfaaT9
import Derived.Test.YtbclgklpcbajfaaA13
namespace Go.Proofs.Ytbclgklpcbajfaa
open Go.RowKit
set_option linter.unusedSimpArgs false
set_option linter.unusedVariables false

set_option maxHeartbeats 8000000 in
set_option maxRecDepth 100000 in
theorem refValid_6 (r : Rec) (bv av uv : Value) (w : World) (h : RecAt w r bv av uv) (hk : r.kind = 6) :
    Calls Try.prog 44 #[.agg (recCells r bv av uv)] w fun e w' => e = .returned (.bool (validB r)) ∧ New w w' := by
  have H := hid h
  obtain ⟨⟨bp, bc, rfl, b1, b2, _⟩, ⟨ap, ac, rfl, a1, a2, _⟩, ⟨up, uc, rfl, l1, l2, l3⟩⟩ := h
  unfold maxLen at a2 b2 l2
  have HV : Hid (validB r = (wi 0 r.unit 1000000 && (np r && nf r && nb r && openB r.units && decide (r.unit = 0) && nt r))) := hid (by simp [validB, hk])
  have HC : recCells r (Value.slice bp r.before.size bc) (Value.slice ap r.after.size ac) (Value.slice up r.units.length uc) = #[.int .i64 6, .int .i64 r.unit, .int .i64 r.page, .int .i64 r.at_, Value.slice bp r.before.size bc, Value.slice ap r.after.size ac, .int .i64 r.back, .int .i64 r.next, .string r.text, Value.slice up r.units.length uc] := by unfold recCells; rw [hk]
  have HN1 : Hid (New w (w.alloc (.cells (recCells r (Value.slice bp r.before.size bc) (Value.slice ap r.after.size ac) (Value.slice up r.units.length uc)) 25))) := hid ((New.refl w).alloc _ 25)
  have H1 : Hid (RecAt (w.alloc (.cells (recCells r (Value.slice bp r.before.size bc) (Value.slice ap r.after.size ac) (Value.slice up r.units.length uc)) 25)) r _ _ _) := hid (H.out.new HN1.out)
  rw [HC] at HN1
  rw [HC]
  have HCC := hid HC
  have G3 := hid l3
  clear HC hk l3
  by_cases e1 : wi 0 r.unit 1000000 = true
  case neg =>
    have e1 : wi 0 r.unit 1000000 = false := by simpa using e1
    go_enter Try.func44, Try.ntmps44
    go_wp2_with fail
    refine (isNumber_any _ _).mono ?_
    rintro e w' ⟨rfl, rfl⟩
    rw [e1]
    go_wp2
    go_ret
    exact ⟨by rw [HV.out, e1]; rfl, HN1.out⟩
  have E1 := hid e1
  go_enter Try.func44, Try.ntmps44
  go_wp2_with fail
  refine (isNumber_any _ _).mono ?_
  rintro e w' ⟨rfl, rfl⟩
  rw [e1]
  clear e1
  go_wp2
  go_loopw [3, 4] (fun i _ wr => ∃ k : Nat, k ≤ r.units.length ∧ i = .int .i64 k ∧ New (w.alloc (.cells #[.int .i64 6, .int .i64 r.unit, .int .i64 r.page, .int .i64 r.at_, Value.slice bp r.before.size bc, Value.slice ap r.after.size ac, .int .i64 r.back, .int .i64 r.next, .string r.text, Value.slice up r.units.length uc] 25)) wr ∧ Hid (∀ j, j < k → okAt r.units j = true)) (fun i _ _ => r.units.length - (intOf i).toNat)
  case atStart => exact ⟨0, Nat.zero_le _, rfl, New.refl _, fun j hj => by omega⟩
  case round =>
    obtain ⟨k, hk, rfl, hnew, hall⟩ := hrel
    have ml := hnew.made.1
    have hbx : w.heap.size < wr.heap.size := by have := hnew.size; simp at this; omega
    by_cases hlt : k < r.units.length
    · obtain ⟨b, o, rfl, hb, hc⟩ := G3.out (by omega)
      have hnw : New w wr := HN1.out.trans hnew
      obtain ⟨c0, c1, c2⟩ := opns_at hc k hlt
      rw [← hnw.cell _ _ hb] at c0 c1 c2
      have hb2 : b < wr.heap.size := Nat.lt_of_lt_of_le hb hnw.size
      have HNO : Hid (okAt r.units k = false → validB r = false) := fun h => by rw [HV.out, openB_no hlt h]; simp
      have HGO : Hid (∀ {W}, New (w.alloc (.cells #[.int .i64 6, .int .i64 r.unit, .int .i64 r.page, .int .i64 r.at_, Value.slice bp r.before.size bc, Value.slice ap r.after.size ac, .int .i64 r.back, .int .i64 r.next, .string r.text, Value.slice (some ⟨b, o, none⟩) r.units.length uc] 25)) W → okAt r.units k = true → ∃ k' : Nat, k' ≤ r.units.length ∧ Value.int .i64 ((k : Int) + 1) = .int .i64 k' ∧ New (w.alloc (.cells #[.int .i64 6, .int .i64 r.unit, .int .i64 r.page, .int .i64 r.at_, Value.slice bp r.before.size bc, Value.slice ap r.after.size ac, .int .i64 r.back, .int .i64 r.next, .string r.text, Value.slice (some ⟨b, o, none⟩) r.units.length uc] 25)) W ∧ Hid (∀ j, j < k' → okAt r.units j = true)) := fun hW ho =>
        ⟨k + 1, by omega, by simp, hW, fun j hj => by
          rcases Nat.lt_or_ge j k with h | h
          · exact hall.out j h
          · obtain rfl : j = k := by omega
            exact ho⟩
      clear hall
      cases k with
      | zero =>
        have HOK := hid (okAt_zero hlt)
        simp only [Nat.zero_mul, Nat.add_zero] at c0 c1 c2
        clear hc
        generalize hx : r.units[0] = x at *
        clear hx
        by_cases e1 : wi 0 x.unit 1000000 = true
        case neg =>
          have e1 : wi 0 x.unit 1000000 = false := by simpa using e1
          go_wp2
          go_quiet ((go_at_call 105; exact quiet_left (isNumber_any _ _)))
          go_wp2
          go_ret
          exact ⟨ret_bool (HNO.out (by rw [HOK.out]; simp [okU, e1])).symm, (((HN1.out.trans hnew).alloc _ _)).drewN _⟩
        by_cases e2 : wi 0 x.next 1000000 = true
        case neg =>
          have e2 : wi 0 x.next 1000000 = false := by simpa using e2
          go_wp2
          go_quiet ((go_at_call 105; exact quiet_left (isNumber_any _ _)))
          go_wp2
          go_ret
          exact ⟨ret_bool (HNO.out (by rw [HOK.out]; simp [okU, e2])).symm, (((HN1.out.trans hnew).alloc _ _)).drewN _⟩
        by_cases e3 : x.ready.size ≤ 30
        case neg =>
          have t3 : decide (30 < (x.ready.size : Int)) = true := by simp; omega
          have E3 := hid e3
          clear e3
          go_wp2
          go_quiet ((go_at_call 105; exact quiet_left (isNumber_any _ _)))
          go_wp2
          go_ret
          exact ⟨ret_bool (HNO.out (by rw [HOK.out]; simp [okU, E3.out])).symm, (((HN1.out.trans hnew).alloc _ _)).drewN _⟩
        have t3 : decide (30 < (x.ready.size : Int)) = false := by simp; omega
        have E3 := hid e3
        clear e3
        go_wp2
        go_quiet ((go_at_call 105; exact quiet_left (isNumber_any _ _)))
        go_wp2
        go_roundw
        case rel => exact HGO.out ((hnew.alloc _ _).drewN _) (by rw [HOK.out]; simp [okU, e1, e2, E3.out])
        case measure => simp [intOf]; omega
      | succ j =>
        have HOK := hid (okAt_succ hlt)
        obtain ⟨d0, d1, d2⟩ := opns_at hc j (by omega)
        rw [← hnw.cell _ _ hb] at d0 d1 d2
        generalize hy : r.units[j] = y at *
        clear hy d1 d2
        clear hc
        generalize hx : r.units[j + 1] = x at *
        clear hx
        by_cases e1 : wi 0 x.unit 1000000 = true
        case neg =>
          have e1 : wi 0 x.unit 1000000 = false := by simpa using e1
          go_wp2
          go_quiet ((go_at_call 105; exact quiet_left (isNumber_any _ _)))
          go_wp2
          go_ret
          exact ⟨ret_bool (HNO.out (by rw [HOK.out]; simp [okU, e1])).symm, (((HN1.out.trans hnew).alloc _ _)).drewN _⟩
        by_cases e2 : wi 0 x.next 1000000 = true
        case neg =>
          have e2 : wi 0 x.next 1000000 = false := by simpa using e2
          go_wp2
          go_quiet ((go_at_call 105; exact quiet_left (isNumber_any _ _)))
          go_wp2
          go_ret
          exact ⟨ret_bool (HNO.out (by rw [HOK.out]; simp [okU, e2])).symm, (((HN1.out.trans hnew).alloc _ _)).drewN _⟩
        by_cases e3 : x.ready.size ≤ 30
        case neg =>
          have t3 : decide (30 < (x.ready.size : Int)) = true := by simp; omega
          have E3 := hid e3
          clear e3
          go_wp2
          go_quiet ((go_at_call 105; exact quiet_left (isNumber_any _ _)))
          go_wp2
          go_ret
          exact ⟨ret_bool (HNO.out (by rw [HOK.out]; simp [okU, E3.out])).symm, (((HN1.out.trans hnew).alloc _ _)).drewN _⟩
        have t3 : decide (30 < (x.ready.size : Int)) = false := by simp; omega
        have E3 := hid e3
        clear e3
        by_cases e4 : y.unit < x.unit
        case neg =>
          have E4 := hid e4
          have e4 : x.unit ≤ y.unit := by omega
          go_wp2
          go_quiet ((go_at_call 105; exact quiet_left (isNumber_any _ _)))
          go_wp2
          go_ret
          exact ⟨ret_bool (HNO.out (by rw [HOK.out]; simp [okU, E4.out])).symm, (((HN1.out.trans hnew).alloc _ _)).drewN _⟩
        have E4 := hid e4
        go_wp2
        go_quiet ((go_at_call 105; exact quiet_left (isNumber_any _ _)))
        go_wp2
        go_roundw
        case rel => exact HGO.out ((hnew.alloc _ _).drewN _) (by rw [HOK.out]; simp [okU, e1, e2, E3.out, E4.out])
        case measure => simp [intOf]; omega
    · obtain rfl : k = r.units.length := by omega
      have HE : Hid _ := openB_end hall.out
      clear hall
      by_cases q1 : r.units.length ≤ 8
      case neg =>
        have t1 : decide ((r.units.length : Int) ≤ 8) = false := by simp; omega
        have Q := hid q1
        clear q1
        go_wp2
        go_ret
        exact ⟨by rw [HV.out, HE.out, decide_eq_false Q.out]; simp, HN1.out.trans hnew⟩
      have t1 : decide ((r.units.length : Int) ≤ 8) = true := by simp; omega
      have Q := hid q1
      by_cases q2 : r.unit = 0
      case neg =>
        have t2 : (r.unit == 0) = false := by simp [q2]
        have Q2 := hid q2
        clear q1 q2
        go_wp2
        go_ret
        exact ⟨by rw [HV.out, decide_eq_false Q2.out]; simp, HN1.out.trans hnew⟩
      have t2 : (r.unit == 0) = true := by simp [q2]
      have Q2 := hid q2
      clear q1 q2
      have H2 := H1.out
      rw [HCC.out] at H2
      have H3 := H2.new hnew
      go_wp2_with fail
      try rw [← HCC.out]
      refine (empty_FFFFT r _ _ _ _ H3).mono ?_
      rintro e w' ⟨rfl, hne⟩
      go_wp2
      go_ret
      refine ⟨ret_bool ?_, (HN1.out.trans hnew).trans hne⟩
      rw [HV.out, HE.out, E1.out, decide_eq_true Q.out, decide_eq_true Q2.out]
      simp only [emptyB, np, nf, Bool.false_or, Bool.true_or, Bool.true_and, Bool.and_true]
      generalize decide (r.page = 0) = x1; generalize decide (r.at_ = 0) = x2; generalize decide (r.after.size = 0) = x3; generalize decide (r.before.size = 0) = x4; generalize nb r = x5; generalize nt r = x7
      revert x1 x2 x3 x4 x5 x7
      decide

/-- progenyref03.Valid, for each record. -/
theorem refValid_any (r : Rec) (bv av uv : Value) (w : World) (h : RecAt w r bv av uv) :
    Calls Try.prog 44 #[.agg (recCells r bv av uv)] w fun e w' => e = .returned (.bool (validB r)) ∧ New w w' := by
  by_cases h1 : r.kind = 1
  · exact refValid_1 r bv av uv w h h1
  by_cases h2 : r.kind = 2
  · exact refValid_2 r bv av uv w h h2
  by_cases h3 : r.kind = 3
  · exact refValid_3 r bv av uv w h h3
  by_cases h4 : r.kind = 4
  · exact refValid_4 r bv av uv w h h4
  by_cases h5 : r.kind = 5
  · exact refValid_5 r bv av uv w h h5
  by_cases h6 : r.kind = 6
  · exact refValid_6 r bv av uv w h h6
  by_cases h7 : r.kind = 7
  · exact refValid_7 r bv av uv w h h7
  exact refValid_no r bv av uv w h (by simpa using h1) (by simpa using h2) (by simpa using h3) (by simpa using h4) (by simpa using h5) (by simpa using h6) (by simpa using h7)

end Go.Proofs.Ytbclgklpcbajfaa

