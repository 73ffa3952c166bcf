/- What progenyref03.SameRecord returns, for every two records. -/
import Derived.Test.YtmchbciofdokfaaA4
namespace Go.Proofs.Ytmchbciofdokfaa
open Go.RowKit

set_option maxHeartbeats 8000000 in
theorem refSameRecord_any (r s : Rec) (b1 a1 u1 b2 a2 u2 : Value) (w : World) (h1 : RecAt w r b1 a1 u1) (h2 : RecAt w s b2 a2 u2) :
    Calls Try.prog 42 #[.agg (recCells r b1 a1 u1), .agg (recCells s b2 a2 u2)] w fun e w' => e = .returned (.bool (decide (r = s))) ∧ New w w' := by
  have HN : Hid _ := @rec_ne r s
  have HE : Hid _ := @rec_eq r s
  have hn2 := new2 w
  obtain ⟨hb1, ha1, ⟨p1, c1, rfl, l1, m1, k1⟩⟩ := h1
  obtain ⟨hb2, ha2, ⟨p2, c2, rfl, l2, m2, k2⟩⟩ := h2
  unfold maxLen at m1 m2
  unfold recCells
  by_cases e0 : r.kind = s.kind
  case neg =>
    have t0 : (r.kind != s.kind) = true := by simpa using e0
    have E0 : Hid _ := e0
    clear e0
    go_enter Try.func42, Try.ntmps42
    simp only [List.append_eq, List.cons_append, List.nil_append]
    go_wp2_with fail
    go_ret
    exact ⟨ret_bool (HN.out (fun h => E0.out h.1)).symm, hn2 _ _ _ _⟩
  have t0 : (r.kind != s.kind) = false := by simpa using e0
  have E0 : Hid _ := e0
  clear e0
  by_cases e1 : r.unit = s.unit
  case neg =>
    have t1 : (r.unit != s.unit) = true := by simpa using e1
    have E1 : Hid _ := e1
    clear e1
    go_enter Try.func42, Try.ntmps42
    simp only [List.append_eq, List.cons_append, List.nil_append]
    go_wp2_with fail
    go_ret
    exact ⟨ret_bool (HN.out (fun h => E1.out h.2.1)).symm, hn2 _ _ _ _⟩
  have t1 : (r.unit != s.unit) = false := by simpa using e1
  have E1 : Hid _ := e1
  clear e1
  by_cases e2 : r.page = s.page
  case neg =>
    have t2 : (r.page != s.page) = true := by simpa using e2
    have E2 : Hid _ := e2
    clear e2
    go_enter Try.func42, Try.ntmps42
    simp only [List.append_eq, List.cons_append, List.nil_append]
    go_wp2_with fail
    go_ret
    exact ⟨ret_bool (HN.out (fun h => E2.out h.2.2.1)).symm, hn2 _ _ _ _⟩
  have t2 : (r.page != s.page) = false := by simpa using e2
  have E2 : Hid _ := e2
  clear e2
  by_cases e3 : r.at_ = s.at_
  case neg =>
    have t3 : (r.at_ != s.at_) = true := by simpa using e3
    have E3 : Hid _ := e3
    clear e3
    go_enter Try.func42, Try.ntmps42
    simp only [List.append_eq, List.cons_append, List.nil_append]
    go_wp2_with fail
    go_ret
    exact ⟨ret_bool (HN.out (fun h => E3.out h.2.2.2.1)).symm, hn2 _ _ _ _⟩
  have t3 : (r.at_ != s.at_) = false := by simpa using e3
  have E3 : Hid _ := e3
  clear e3
  by_cases e4 : r.back = s.back
  case neg =>
    have t4 : (r.back != s.back) = true := by simpa using e4
    have E4 : Hid _ := e4
    clear e4
    go_enter Try.func42, Try.ntmps42
    simp only [List.append_eq, List.cons_append, List.nil_append]
    go_wp2_with fail
    go_ret
    exact ⟨ret_bool (HN.out (fun h => E4.out h.2.2.2.2.1)).symm, hn2 _ _ _ _⟩
  have t4 : (r.back != s.back) = false := by simpa using e4
  have E4 : Hid _ := e4
  clear e4
  by_cases e5 : r.next = s.next
  case neg =>
    have t5 : (r.next != s.next) = true := by simpa using e5
    have E5 : Hid _ := e5
    clear e5
    go_enter Try.func42, Try.ntmps42
    simp only [List.append_eq, List.cons_append, List.nil_append]
    go_wp2_with fail
    go_ret
    exact ⟨ret_bool (HN.out (fun h => E5.out h.2.2.2.2.2.1)).symm, hn2 _ _ _ _⟩
  have t5 : (r.next != s.next) = false := by simpa using e5
  have E5 : Hid _ := e5
  clear e5
  by_cases e6 : r.text.toList = s.text.toList
  case neg =>
    have t6 : (r.text.toList == s.text.toList) = false := by simpa using e6
    have E6 : Hid _ := e6
    clear e6
    go_enter Try.func42, Try.ntmps42
    simp only [List.append_eq, List.cons_append, List.nil_append]
    go_wp2_with fail
    go_ret
    exact ⟨ret_bool (HN.out (fun h => E6.out h.2.2.2.2.2.2.1)).symm, hn2 _ _ _ _⟩
  have t6 : (r.text.toList == s.text.toList) = true := by simpa using e6
  have E6 : Hid _ := e6
  clear e6
  go_enter Try.func42, Try.ntmps42
  simp only [List.append_eq, List.cons_append, List.nil_append]
  go_wp2_with fail
  refine (compare_any _ _ _ _ _ (hb1.new (hn2 _ _ _ _)) (hb2.new (hn2 _ _ _ _))).mono ?_
  rintro e w3 ⟨rfl, n3⟩
  have N3 := (hn2 _ _ _ _).trans n3
  by_cases e7 : r.before = s.before
  case neg =>
    have t7 : (cmpS r.before s.before != 0) = true := by simpa [cmpS_zero] using e7
    have E7 : Hid _ := e7
    clear e7
    go_wp2_with fail
    go_ret
    exact ⟨ret_bool (HN.out (fun h => E7.out h.2.2.2.2.2.2.2.1)).symm, N3⟩
  have t7 : (cmpS r.before s.before != 0) = false := by simpa [cmpS_zero] using e7
  have E7 : Hid _ := e7
  clear e7
  obtain ⟨⟨q1, q2⟩, _⟩ := n3.made2
  go_wp2_with fail
  refine (compare_any _ _ _ _ _ (ha1.new N3) (ha2.new N3)).mono ?_
  rintro e w4 ⟨rfl, n4⟩
  have N4 := N3.trans n4
  by_cases e8 : r.after = s.after
  case neg =>
    have t8 : (cmpS r.after s.after != 0) = true := by simpa [cmpS_zero] using e8
    have E8 : Hid _ := e8
    clear e8
    go_wp2_with fail
    go_ret
    exact ⟨ret_bool (HN.out (fun h => E8.out h.2.2.2.2.2.2.2.2.1)).symm, N4⟩
  have t8 : (cmpS r.after s.after != 0) = false := by simpa [cmpS_zero] using e8
  have E8 : Hid _ := e8
  clear e8
  clear q1 q2
  obtain ⟨⟨q1, q2⟩, _⟩ := (n3.trans n4).made2
  by_cases e9 : r.units.length = s.units.length
  case neg =>
    have t9 : ((r.units.length : Int) != s.units.length) = true := by simp; omega
    have E9 : Hid _ := e9
    clear e9
    go_wp2_with fail
    go_ret
    exact ⟨ret_bool (HN.out (fun h => E9.out (by rw [h.2.2.2.2.2.2.2.2.2]))).symm, N4⟩
  have t9 : ((r.units.length : Int) != s.units.length) = false := by simp; omega
  have E9 : Hid _ := e9
  clear e9
  go_wp2_with fail
  clear q1 q2
  go_loopw [5] (fun i wr => ∃ k : Nat, k ≤ r.units.length ∧ i = .int .i64 k ∧ New ((w.alloc _).alloc _) wr ∧ Hid (∀ i, i < k → r.units[i]? = s.units[i]?)) (fun i _ => r.units.length - (intOf i).toNat)
  case atStart => exact ⟨0, Nat.zero_le _, rfl, n3.trans n4, fun j hj => by omega⟩
  case round =>
    obtain ⟨k, hk, rfl, hnew4, hall⟩ := hrel
    have hnew := (hn2 _ _ _ _).trans hnew4
    obtain ⟨⟨q1, q2⟩, _⟩ := hnew4.made2
    by_cases hlt : k < r.units.length
    · have hlm : k < s.units.length := by have := E9.out; omega
      obtain ⟨b, o, rfl, hb, hc⟩ := k1 (by omega)
      obtain ⟨b', o', rfl, hb', hc'⟩ := k2 (by omega)
      obtain ⟨c0, c1, c2⟩ := opns_at hc k hlt
      obtain ⟨d0, d1, d2⟩ := opns_at hc' k hlm
      rw [← hnew.cell _ _ hb] at c0 c1 c2
      rw [← hnew.cell _ _ hb'] at d0 d1 d2
      clear hc k1 hc' k2
      have hne : Hid (r.units[k] ≠ s.units[k] → decide (r = s) = false) := fun h => by
        rw [decide_eq_false_iff_not]; intro e; subst e; exact h rfl
      generalize hx : r.units[k] = x at *
      generalize hy : s.units[k] = y at *
      have HX : Hid _ := hx
      have HY : Hid _ := hy
      clear hx hy
      by_cases e1 : x.unit = y.unit
      · by_cases e2 : x.next = y.next
        · by_cases e3 : x.ready.toList = y.ready.toList
          · have E : Hid (x = y) := opn_eq e1 e2 e3
            go_wp2
            go_region
            go_wp2
            go_roundw
            case rel =>
              refine ⟨k + 1, by omega, by go_num, hnew4.drew, fun j hj => ?_⟩
              rcases Nat.lt_or_ge j k with h | h
              · exact hall.out j h
              · obtain rfl : j = k := by omega
                rw [List.getElem?_eq_getElem hlt, List.getElem?_eq_getElem hlm, HX.out, HY.out, E.out]
            case measure => simp [intOf]; omega
          · go_wp2
            go_region
            go_wp2
            go_ret
            exact ⟨ret_bool (hne.out (fun e => e3 (by rw [e]))).symm, hnew.drew⟩
        · go_wp2
          go_region
          go_wp2
          go_ret
          exact ⟨ret_bool (hne.out (fun e => e2 (by rw [e]))).symm, hnew.drew⟩
      · go_wp2
        go_region
        go_wp2
        go_ret
        exact ⟨ret_bool (hne.out (fun e => e1 (by rw [e]))).symm, hnew.drew⟩
    · obtain rfl : k = r.units.length := by omega
      have HF : Hid (decide (r = s) = true) := by
        rw [Hid, HE.out ⟨E0.out, E1.out, E2.out, E3.out, E4.out, E5.out, E6.out, E7.out, E8.out⟩, eq_upto E9.out hall.out]; simp
      go_wp2
      go_ret
      exact ⟨ret_bool HF.out.symm, hnew⟩

end Go.Proofs.Ytmchbciofdokfaa
