/- What tape.SameRecord returns, for every two records. -/
import Derived.Test.YtbclgklpcbajfaaA2
import Derived.Test.YtbclgklpcbajfaaA3
namespace Go.Proofs.Ytbclgklpcbajfaa
open Go.RowKit

theorem rec_ne {r s : Rec} : ¬ (r.kind = s.kind ∧ r.unit = s.unit ∧ r.page = s.page ∧ r.at_ = s.at_ ∧ r.back = s.back ∧ r.next = s.next ∧ r.text.toList = s.text.toList ∧ r.before = s.before ∧ r.after = s.after ∧ r.units = s.units) → decide (r = s) = false := by
  intro h
  rw [decide_eq_false_iff_not]
  rintro rfl
  exact h (by simp)
theorem rec_eq {r s : Rec} (h : r.kind = s.kind ∧ r.unit = s.unit ∧ r.page = s.page ∧ r.at_ = s.at_ ∧ r.back = s.back ∧ r.next = s.next ∧ r.text.toList = s.text.toList ∧ r.before = s.before ∧ r.after = s.after) : decide (r = s) = decide (r.units = s.units) := by
  obtain ⟨h1, h2, h3, h4, h5, h6, h7, h8, h9⟩ := h
  cases r; cases s
  simp only at *
  have h7 := str_eq h7
  subst h1 h2 h3 h4 h5 h6 h7 h8 h9
  simp
theorem new2 (w : World) (c d : Array Value) (t u : TypeId) : New w ((w.alloc (.cells c t)).alloc (.cells d u)) := ((Below.refl _ _).alloc (Nat.le_refl _) _).alloc (by simp) _

set_option maxHeartbeats 4000000 in
theorem sameRecord_any (r s : Rec) (b1 a1 u1 b2 a2 u2 : Value) (w : World) (h1 : RecAt w r b1 a1 u1) (h2 : RecAt w s b2 a2 u2) :
    Calls Try.prog 17 #[.agg (recCells r b1 a1 u1), .agg (recCells s b2 a2 u2)] w fun e w' => e = .returned (.bool (decide (r = s))) ∧ New w w' := by
  have HN : Hid _ := @rec_ne r s
  have HE : Hid _ := @rec_eq r s
  have hn2 := new2 w
  unfold recCells
  by_cases e0 : r.kind = s.kind
  case neg =>
    have t0 : (r.kind == s.kind) = false := by simpa using e0
    have E0 : Hid _ := e0
    clear e0
    go_enter Try.func17, Try.ntmps17
    simp only [List.append_eq, List.cons_append, List.nil_append]
    go_wp2_with fail
    go_ret
    exact ⟨ret_bool (HN.out (fun h => E0.out h.1)).symm, hn2 _ _ _ _⟩
  have t0 : (r.kind == s.kind) = true := by simpa using e0
  have E0 : Hid _ := e0
  clear e0
  by_cases e1 : r.unit = s.unit
  case neg =>
    have t1 : (r.unit == s.unit) = false := by simpa using e1
    have E1 : Hid _ := e1
    clear e1
    go_enter Try.func17, Try.ntmps17
    simp only [List.append_eq, List.cons_append, List.nil_append]
    go_wp2_with fail
    go_ret
    exact ⟨ret_bool (HN.out (fun h => E1.out h.2.1)).symm, hn2 _ _ _ _⟩
  have t1 : (r.unit == s.unit) = true := by simpa using e1
  have E1 : Hid _ := e1
  clear e1
  by_cases e2 : r.page = s.page
  case neg =>
    have t2 : (r.page == s.page) = false := by simpa using e2
    have E2 : Hid _ := e2
    clear e2
    go_enter Try.func17, Try.ntmps17
    simp only [List.append_eq, List.cons_append, List.nil_append]
    go_wp2_with fail
    go_ret
    exact ⟨ret_bool (HN.out (fun h => E2.out h.2.2.1)).symm, hn2 _ _ _ _⟩
  have t2 : (r.page == s.page) = true := by simpa using e2
  have E2 : Hid _ := e2
  clear e2
  by_cases e3 : r.at_ = s.at_
  case neg =>
    have t3 : (r.at_ == s.at_) = false := by simpa using e3
    have E3 : Hid _ := e3
    clear e3
    go_enter Try.func17, Try.ntmps17
    simp only [List.append_eq, List.cons_append, List.nil_append]
    go_wp2_with fail
    go_ret
    exact ⟨ret_bool (HN.out (fun h => E3.out h.2.2.2.1)).symm, hn2 _ _ _ _⟩
  have t3 : (r.at_ == s.at_) = true := by simpa using e3
  have E3 : Hid _ := e3
  clear e3
  by_cases e4 : r.back = s.back
  case neg =>
    have t4 : (r.back == s.back) = false := by simpa using e4
    have E4 : Hid _ := e4
    clear e4
    go_enter Try.func17, Try.ntmps17
    simp only [List.append_eq, List.cons_append, List.nil_append]
    go_wp2_with fail
    go_ret
    exact ⟨ret_bool (HN.out (fun h => E4.out h.2.2.2.2.1)).symm, hn2 _ _ _ _⟩
  have t4 : (r.back == s.back) = true := by simpa using e4
  have E4 : Hid _ := e4
  clear e4
  by_cases e5 : r.next = s.next
  case neg =>
    have t5 : (r.next == s.next) = false := by simpa using e5
    have E5 : Hid _ := e5
    clear e5
    go_enter Try.func17, Try.ntmps17
    simp only [List.append_eq, List.cons_append, List.nil_append]
    go_wp2_with fail
    go_ret
    exact ⟨ret_bool (HN.out (fun h => E5.out h.2.2.2.2.2.1)).symm, hn2 _ _ _ _⟩
  have t5 : (r.next == s.next) = true := by simpa using e5
  have E5 : Hid _ := e5
  clear e5
  by_cases e6 : r.text.toList = s.text.toList
  case neg =>
    have t6 : (r.text.toList == s.text.toList) = false := by simpa using e6
    have E6 : Hid _ := e6
    clear e6
    go_enter Try.func17, Try.ntmps17
    simp only [List.append_eq, List.cons_append, List.nil_append]
    go_wp2_with fail
    go_ret
    exact ⟨ret_bool (HN.out (fun h => E6.out h.2.2.2.2.2.2.1)).symm, hn2 _ _ _ _⟩
  have t6 : (r.text.toList == s.text.toList) = true := by simpa using e6
  have E6 : Hid _ := e6
  clear e6
  go_enter Try.func17, Try.ntmps17
  simp only [List.append_eq, List.cons_append, List.nil_append]
  go_wp2_with fail
  refine (bytesEqual_any _ _ _ _ _ (h1.before.new (hn2 _ _ _ _)) (h2.before.new (hn2 _ _ _ _))).mono ?_
  rintro e w' ⟨rfl, rfl⟩
  by_cases e7 : r.before = s.before
  case neg =>
    have t7 : decide (r.before = s.before) = false := by simpa using e7
    have E7 : Hid _ := e7
    clear e7
    go_wp2_with fail
    go_ret
    exact ⟨ret_bool (HN.out (fun h => E7.out h.2.2.2.2.2.2.2.1)).symm, hn2 _ _ _ _⟩
  have t7 : decide (r.before = s.before) = true := by simpa using e7
  have E7 : Hid _ := e7
  clear e7
  go_wp2_with fail
  refine (bytesEqual_any _ _ _ _ _ (h1.after.new (hn2 _ _ _ _)) (h2.after.new (hn2 _ _ _ _))).mono ?_
  rintro e w' ⟨rfl, rfl⟩
  by_cases e8 : r.after = s.after
  case neg =>
    have t8 : decide (r.after = s.after) = false := by simpa using e8
    have E8 : Hid _ := e8
    clear e8
    go_wp2_with fail
    go_ret
    exact ⟨ret_bool (HN.out (fun h => E8.out h.2.2.2.2.2.2.2.2.1)).symm, hn2 _ _ _ _⟩
  have t8 : decide (r.after = s.after) = true := by simpa using e8
  have E8 : Hid _ := e8
  clear e8
  go_wp2_with fail
  refine (opensEqual_any _ _ _ _ _ (h1.units.new (hn2 _ _ _ _)) (h2.units.new (hn2 _ _ _ _))).mono ?_
  rintro e w' ⟨rfl, hw⟩
  go_wp2_with fail
  go_ret
  exact ⟨ret_bool (HE.out ⟨E0.out, E1.out, E2.out, E3.out, E4.out, E5.out, E6.out, E7.out, E8.out⟩).symm, (hn2 _ _ _ _).trans hw⟩

end Go.Proofs.Ytbclgklpcbajfaa
