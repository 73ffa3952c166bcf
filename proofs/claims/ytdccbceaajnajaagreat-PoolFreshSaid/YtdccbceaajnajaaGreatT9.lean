/- What progenyref03.Valid returns, at each kind but a mark (printed by rvalid2.py). -/
import Derived.Test.YtdccbceaajnajaaGreatT8
namespace Go.Proofs.YtdccbceaajnajaaGreat
open Go.RowKit
set_option linter.unusedSimpArgs false
set_option linter.unusedVariables false

set_option maxHeartbeats 4000000 in
set_option maxRecDepth 10000 in
theorem refValid_3 (r : Rec) (bv av uv : Value) (w : World) (h : RecAt w r bv av uv) (hk : r.kind = 3) :
    Calls Tryz.prog 101 #[.agg (recCells r bv av uv)] w fun e w' => e = .returned (.bool (validB r)) ∧ New w w' := by
  have H := hid h
  obtain ⟨⟨bp, bc, rfl, b1, b2, _⟩, ⟨ap, ac, rfl, a1, a2, _⟩, ⟨up, uc, rfl, l1, l2, _⟩⟩ := h
  unfold maxLen at a2 b2 l2
  have HV : Hid (validB r = (wi 0 r.unit 1000000 && (np r && nf r && nb r && nu r && nt r))) := hid (by simp [validB, hk])
  have HC : recCells r (Value.slice bp r.before.size bc) (Value.slice ap r.after.size ac) (Value.slice up r.units.length uc) = #[.int .i64 3, .int .i64 r.unit, .int .i64 r.page, .int .i64 r.at_, Value.slice bp r.before.size bc, Value.slice ap r.after.size ac, .int .i64 r.back, .int .i64 r.next, .string r.text, Value.slice up r.units.length uc] := by unfold recCells; rw [hk]
  have HN := hid (fun c => (New.refl w).alloc c 70)
  have H1 : Hid (RecAt (w.alloc (.cells (recCells r (Value.slice bp r.before.size bc) (Value.slice ap r.after.size ac) (Value.slice up r.units.length uc)) 70)) r _ _ _) := hid (H.out.new (HN.out _))
  rw [HC]
  have HCC := hid HC
  clear HC hk
  by_cases e1 : wi 0 r.unit 1000000 = true
  case neg =>
    have e1 : wi 0 r.unit 1000000 = false := by simpa using e1
    go_enter Tryz.func101, Tryz.ntmps101
    go_wp2_with fail
    refine (isNumber_any _ _).mono ?_
    rintro e w' ⟨rfl, rfl⟩
    rw [e1]
    go_wp2
    go_ret
    exact ⟨by rw [HV.out, e1]; rfl, HN.out _⟩
  go_enter Tryz.func101, Tryz.ntmps101
  go_wp2_with fail
  refine (isNumber_any _ _).mono ?_
  rintro e w' ⟨rfl, rfl⟩
  rw [e1]
  go_wp2_with fail
  try rw [← HCC.out]
  refine (empty_FFFFF r _ _ _ _ H1.out).mono ?_
  rintro e w' ⟨rfl, hne⟩
  go_wp2
  go_ret
  refine ⟨ret_bool ?_, (HN.out _).trans hne⟩
  rw [HV.out, e1]
  simp only [emptyB, np, nf, Bool.false_or, Bool.true_and]
  generalize decide (r.page = 0) = x1; generalize decide (r.at_ = 0) = x2; generalize decide (r.after.size = 0) = x3; generalize decide (r.before.size = 0) = x4; generalize nb r = x5; generalize nu r = x6; generalize nt r = x7
  revert x1 x2 x3 x4 x5 x6 x7
  decide

set_option maxHeartbeats 4000000 in
set_option maxRecDepth 10000 in
theorem refValid_4 (r : Rec) (bv av uv : Value) (w : World) (h : RecAt w r bv av uv) (hk : r.kind = 4) :
    Calls Tryz.prog 101 #[.agg (recCells r bv av uv)] w fun e w' => e = .returned (.bool (validB r)) ∧ New w w' := by
  have H := hid h
  obtain ⟨⟨bp, bc, rfl, b1, b2, _⟩, ⟨ap, ac, rfl, a1, a2, _⟩, ⟨up, uc, rfl, l1, l2, _⟩⟩ := h
  unfold maxLen at a2 b2 l2
  have HV : Hid (validB r = (wi 0 r.unit 1000000 && (np r && nf r && nb r && nu r && nt r))) := hid (by simp [validB, hk])
  have HC : recCells r (Value.slice bp r.before.size bc) (Value.slice ap r.after.size ac) (Value.slice up r.units.length uc) = #[.int .i64 4, .int .i64 r.unit, .int .i64 r.page, .int .i64 r.at_, Value.slice bp r.before.size bc, Value.slice ap r.after.size ac, .int .i64 r.back, .int .i64 r.next, .string r.text, Value.slice up r.units.length uc] := by unfold recCells; rw [hk]
  have HN := hid (fun c => (New.refl w).alloc c 70)
  have H1 : Hid (RecAt (w.alloc (.cells (recCells r (Value.slice bp r.before.size bc) (Value.slice ap r.after.size ac) (Value.slice up r.units.length uc)) 70)) r _ _ _) := hid (H.out.new (HN.out _))
  rw [HC]
  have HCC := hid HC
  clear HC hk
  by_cases e1 : wi 0 r.unit 1000000 = true
  case neg =>
    have e1 : wi 0 r.unit 1000000 = false := by simpa using e1
    go_enter Tryz.func101, Tryz.ntmps101
    go_wp2_with fail
    refine (isNumber_any _ _).mono ?_
    rintro e w' ⟨rfl, rfl⟩
    rw [e1]
    go_wp2
    go_ret
    exact ⟨by rw [HV.out, e1]; rfl, HN.out _⟩
  go_enter Tryz.func101, Tryz.ntmps101
  go_wp2_with fail
  refine (isNumber_any _ _).mono ?_
  rintro e w' ⟨rfl, rfl⟩
  rw [e1]
  go_wp2_with fail
  try rw [← HCC.out]
  refine (empty_FFFFF r _ _ _ _ H1.out).mono ?_
  rintro e w' ⟨rfl, hne⟩
  go_wp2
  go_ret
  refine ⟨ret_bool ?_, (HN.out _).trans hne⟩
  rw [HV.out, e1]
  simp only [emptyB, np, nf, Bool.false_or, Bool.true_and]
  generalize decide (r.page = 0) = x1; generalize decide (r.at_ = 0) = x2; generalize decide (r.after.size = 0) = x3; generalize decide (r.before.size = 0) = x4; generalize nb r = x5; generalize nu r = x6; generalize nt r = x7
  revert x1 x2 x3 x4 x5 x6 x7
  decide

set_option maxHeartbeats 4000000 in
set_option maxRecDepth 10000 in
theorem refValid_5 (r : Rec) (bv av uv : Value) (w : World) (h : RecAt w r bv av uv) (hk : r.kind = 5) :
    Calls Tryz.prog 101 #[.agg (recCells r bv av uv)] w fun e w' => e = .returned (.bool (validB r)) ∧ New w w' := by
  have H := hid h
  obtain ⟨⟨bp, bc, rfl, b1, b2, _⟩, ⟨ap, ac, rfl, a1, a2, _⟩, ⟨up, uc, rfl, l1, l2, _⟩⟩ := h
  unfold maxLen at a2 b2 l2
  have HV : Hid (validB r = (wi 0 r.unit 1000000 && (np r && nf r && nb r && nu r && wi 1 r.text.size 30))) := hid (by simp [validB, hk])
  have HC : recCells r (Value.slice bp r.before.size bc) (Value.slice ap r.after.size ac) (Value.slice up r.units.length uc) = #[.int .i64 5, .int .i64 r.unit, .int .i64 r.page, .int .i64 r.at_, Value.slice bp r.before.size bc, Value.slice ap r.after.size ac, .int .i64 r.back, .int .i64 r.next, .string r.text, Value.slice up r.units.length uc] := by unfold recCells; rw [hk]
  have HN := hid (fun c => (New.refl w).alloc c 70)
  have H1 : Hid (RecAt (w.alloc (.cells (recCells r (Value.slice bp r.before.size bc) (Value.slice ap r.after.size ac) (Value.slice up r.units.length uc)) 70)) r _ _ _) := hid (H.out.new (HN.out _))
  rw [HC]
  have HCC := hid HC
  clear HC hk
  by_cases e1 : wi 0 r.unit 1000000 = true
  case neg =>
    have e1 : wi 0 r.unit 1000000 = false := by simpa using e1
    go_enter Tryz.func101, Tryz.ntmps101
    go_wp2_with fail
    refine (isNumber_any _ _).mono ?_
    rintro e w' ⟨rfl, rfl⟩
    rw [e1]
    go_wp2
    go_ret
    exact ⟨by rw [HV.out, e1]; rfl, HN.out _⟩
  by_cases q0 : wi 1 r.text.size 30 = true
  case neg =>
    have q0 : wi 1 r.text.size 30 = false := by simpa using q0
    have Q := hid (wi_no.1 q0)
    by_cases q1 : (1 : Int) ≤ (r.text.size : Int)
    · have q2 : decide ((r.text.size : Int) ≤ 30) = false := by have := Q.out; simp; omega
      have q1' : decide ((1 : Int) ≤ (r.text.size : Int)) = true := by simp; omega
      go_enter Tryz.func101, Tryz.ntmps101
      go_wp2_with fail
      refine (isNumber_any _ _).mono ?_
      rintro e w' ⟨rfl, rfl⟩
      rw [e1]
      go_wp2
      go_ret
      exact ⟨by rw [HV.out, e1, q0]; simp, HN.out _⟩
    · have q1' : decide ((1 : Int) ≤ (r.text.size : Int)) = false := by simp; omega
      have Q1 := hid q1
      clear q1
      go_enter Tryz.func101, Tryz.ntmps101
      go_wp2_with fail
      refine (isNumber_any _ _).mono ?_
      rintro e w' ⟨rfl, rfl⟩
      rw [e1]
      go_wp2
      go_ret
      exact ⟨by rw [HV.out, e1, q0]; simp, HN.out _⟩
  have Q := hid (wi_iff.1 q0)
  have q1 : decide ((1 : Int) ≤ (r.text.size : Int)) = true := by have := Q.out; simp; omega
  have q2 : decide ((r.text.size : Int) ≤ 30) = true := by have := Q.out; simp; omega
  have QQ := hid q0
  clear q0
  go_enter Tryz.func101, Tryz.ntmps101
  go_wp2_with fail
  refine (isNumber_any _ _).mono ?_
  rintro e w' ⟨rfl, rfl⟩
  rw [e1]
  go_wp2_with fail
  try rw [← HCC.out]
  refine (empty_FFFTF r _ _ _ _ H1.out).mono ?_
  rintro e w' ⟨rfl, hne⟩
  go_wp2
  go_ret
  refine ⟨ret_bool ?_, (HN.out _).trans hne⟩
  rw [HV.out, e1, QQ.out]
  simp only [emptyB, np, nf, Bool.false_or, Bool.true_or, Bool.true_and, Bool.and_true]
  generalize decide (r.page = 0) = x1; generalize decide (r.at_ = 0) = x2; generalize decide (r.after.size = 0) = x3; generalize decide (r.before.size = 0) = x4; generalize nb r = x5; generalize nu r = x6
  revert x1 x2 x3 x4 x5 x6
  decide

set_option maxHeartbeats 4000000 in
set_option maxRecDepth 10000 in
theorem refValid_7 (r : Rec) (bv av uv : Value) (w : World) (h : RecAt w r bv av uv) (hk : r.kind = 7) :
    Calls Tryz.prog 101 #[.agg (recCells r bv av uv)] w fun e w' => e = .returned (.bool (validB r)) ∧ New w w' := by
  have H := hid h
  obtain ⟨⟨bp, bc, rfl, b1, b2, _⟩, ⟨ap, ac, rfl, a1, a2, _⟩, ⟨up, uc, rfl, l1, l2, _⟩⟩ := h
  unfold maxLen at a2 b2 l2
  have HV : Hid (validB r = (wi 0 r.unit 1000000 && (np r && nf r && nb r && nu r && decide (r.text.size ≤ 200)))) := hid (by simp [validB, hk])
  have HC : recCells r (Value.slice bp r.before.size bc) (Value.slice ap r.after.size ac) (Value.slice up r.units.length uc) = #[.int .i64 7, .int .i64 r.unit, .int .i64 r.page, .int .i64 r.at_, Value.slice bp r.before.size bc, Value.slice ap r.after.size ac, .int .i64 r.back, .int .i64 r.next, .string r.text, Value.slice up r.units.length uc] := by unfold recCells; rw [hk]
  have HN := hid (fun c => (New.refl w).alloc c 70)
  have H1 : Hid (RecAt (w.alloc (.cells (recCells r (Value.slice bp r.before.size bc) (Value.slice ap r.after.size ac) (Value.slice up r.units.length uc)) 70)) r _ _ _) := hid (H.out.new (HN.out _))
  rw [HC]
  have HCC := hid HC
  clear HC hk
  by_cases e1 : wi 0 r.unit 1000000 = true
  case neg =>
    have e1 : wi 0 r.unit 1000000 = false := by simpa using e1
    go_enter Tryz.func101, Tryz.ntmps101
    go_wp2_with fail
    refine (isNumber_any _ _).mono ?_
    rintro e w' ⟨rfl, rfl⟩
    rw [e1]
    go_wp2
    go_ret
    exact ⟨by rw [HV.out, e1]; rfl, HN.out _⟩
  by_cases q0 : r.text.size ≤ 200
  case neg =>
    have q2 : decide ((r.text.size : Int) ≤ 200) = false := by simp; omega
    have Q := hid q0
    clear q0
    go_enter Tryz.func101, Tryz.ntmps101
    go_wp2_with fail
    refine (isNumber_any _ _).mono ?_
    rintro e w' ⟨rfl, rfl⟩
    rw [e1]
    go_wp2
    go_ret
    exact ⟨by rw [HV.out, e1, decide_eq_false Q.out]; simp, HN.out _⟩
  have q2 : decide ((r.text.size : Int) ≤ 200) = true := by simp; omega
  have QQ := hid q0
  clear q0
  go_enter Tryz.func101, Tryz.ntmps101
  go_wp2_with fail
  refine (isNumber_any _ _).mono ?_
  rintro e w' ⟨rfl, rfl⟩
  rw [e1]
  go_wp2_with fail
  try rw [← HCC.out]
  refine (empty_FFFTF r _ _ _ _ H1.out).mono ?_
  rintro e w' ⟨rfl, hne⟩
  go_wp2
  go_ret
  refine ⟨ret_bool ?_, (HN.out _).trans hne⟩
  rw [HV.out, e1, decide_eq_true QQ.out]
  simp only [emptyB, np, nf, Bool.false_or, Bool.true_or, Bool.true_and, Bool.and_true]
  generalize decide (r.page = 0) = x1; generalize decide (r.at_ = 0) = x2; generalize decide (r.after.size = 0) = x3; generalize decide (r.before.size = 0) = x4; generalize nb r = x5; generalize nu r = x6
  revert x1 x2 x3 x4 x5 x6
  decide

set_option maxHeartbeats 4000000 in
set_option maxRecDepth 10000 in
theorem refValid_1 (r : Rec) (bv av uv : Value) (w : World) (h : RecAt w r bv av uv) (hk : r.kind = 1) :
    Calls Tryz.prog 101 #[.agg (recCells r bv av uv)] w fun e w' => e = .returned (.bool (validB r)) ∧ New w w' := by
  have H := hid h
  obtain ⟨⟨bp, bc, rfl, b1, b2, _⟩, ⟨ap, ac, rfl, a1, a2, _⟩, ⟨up, uc, rfl, l1, l2, _⟩⟩ := h
  unfold maxLen at a2 b2 l2
  have HV : Hid (validB r = (wi 0 r.unit 1000000 && (placeB r && decide (r.before.size = r.after.size) && nb r && nu r && nt r))) := hid (by simp [validB, hk])
  have HC : recCells r (Value.slice bp r.before.size bc) (Value.slice ap r.after.size ac) (Value.slice up r.units.length uc) = #[.int .i64 1, .int .i64 r.unit, .int .i64 r.page, .int .i64 r.at_, Value.slice bp r.before.size bc, Value.slice ap r.after.size ac, .int .i64 r.back, .int .i64 r.next, .string r.text, Value.slice up r.units.length uc] := by unfold recCells; rw [hk]
  have HN := hid (fun c => (New.refl w).alloc c 70)
  have H1 : Hid (RecAt (w.alloc (.cells (recCells r (Value.slice bp r.before.size bc) (Value.slice ap r.after.size ac) (Value.slice up r.units.length uc)) 70)) r _ _ _) := hid (H.out.new (HN.out _))
  rw [HC]
  have HCC := hid HC
  clear HC hk
  by_cases e1 : wi 0 r.unit 1000000 = true
  case neg =>
    have e1 : wi 0 r.unit 1000000 = false := by simpa using e1
    go_enter Tryz.func101, Tryz.ntmps101
    go_wp2_with fail
    refine (isNumber_any _ _).mono ?_
    rintro e w' ⟨rfl, rfl⟩
    rw [e1]
    go_wp2
    go_ret
    exact ⟨by rw [HV.out, e1]; rfl, HN.out _⟩
  cases hl : laidB r with
  | false =>
    go_enter Tryz.func101, Tryz.ntmps101
    go_wp2_with fail
    refine (isNumber_any _ _).mono ?_
    rintro e w' ⟨rfl, rfl⟩
    rw [e1]
    go_wp2_with fail
    try rw [← HCC.out]
    refine (laid_any r _ _ _ _ H1.out).mono ?_
    rintro e w' ⟨rfl, hnl⟩
    rw [hl]
    go_wp2
    go_ret
    exact ⟨by rw [HV.out, e1, ← laidB_eq, hl]; rfl, (HN.out _).trans hnl⟩
  | true =>
    by_cases c1 : r.before.size = r.after.size
    case neg =>
      have t1 : ((r.before.size : Int) == (r.after.size : Int)) = false := by simp; omega
      have Qc1 := hid c1
      clear c1
      go_enter Tryz.func101, Tryz.ntmps101
      go_wp2_with fail
      refine (isNumber_any _ _).mono ?_
      rintro e w' ⟨rfl, rfl⟩
      rw [e1]
      go_wp2_with fail
      try rw [← HCC.out]
      refine (laid_any r _ _ _ _ H1.out).mono ?_
      rintro e w' ⟨rfl, hnl⟩
      rw [hl]
      have ml := hnl.made.1
      go_wp2
      go_ret
      exact ⟨by rw [HV.out, e1, ← laidB_eq, hl, decide_eq_false Qc1.out]; simp, (HN.out _).trans hnl⟩
    have t1 : ((r.before.size : Int) == (r.after.size : Int)) = true := by simp [c1]
    have Qc1 := hid c1
    clear c1
    go_enter Tryz.func101, Tryz.ntmps101
    go_wp2_with fail
    refine (isNumber_any _ _).mono ?_
    rintro e w' ⟨rfl, rfl⟩
    rw [e1]
    go_wp2_with fail
    try rw [← HCC.out]
    refine (laid_any r _ _ _ _ H1.out).mono ?_
    rintro e w' ⟨rfl, hnl⟩
    rw [hl]
    have ml := hnl.made.1
    have H2 := H1.out.new hnl
    go_wp2_with fail
    try rw [← HCC.out]
    refine (empty_TTFFF r _ _ _ _ H2).mono ?_
    rintro e w' ⟨rfl, hne⟩
    go_wp2
    go_ret
    refine ⟨ret_bool ?_, ((HN.out _).trans hnl).trans hne⟩
    rw [HV.out, e1, ← laidB_eq, hl, decide_eq_true Qc1.out]
    simp only [emptyB, np, nf, Bool.false_or, Bool.true_or, Bool.true_and, Bool.and_true]
    generalize nb r = x5; generalize nu r = x6; generalize nt r = x7
    revert x5 x6 x7
    decide

set_option maxHeartbeats 4000000 in
set_option maxRecDepth 10000 in
theorem refValid_2 (r : Rec) (bv av uv : Value) (w : World) (h : RecAt w r bv av uv) (hk : r.kind = 2) :
    Calls Tryz.prog 101 #[.agg (recCells r bv av uv)] w fun e w' => e = .returned (.bool (validB r)) ∧ New w w' := by
  have H := hid h
  obtain ⟨⟨bp, bc, rfl, b1, b2, _⟩, ⟨ap, ac, rfl, a1, a2, _⟩, ⟨up, uc, rfl, l1, l2, _⟩⟩ := h
  unfold maxLen at a2 b2 l2
  have HV : Hid (validB r = (wi 0 r.unit 1000000 && (placeB r && nf r && wi 0 r.back 1000000 && wi 0 r.next 1000000 && nu r && nt r))) := hid (by simp [validB, hk])
  have HC : recCells r (Value.slice bp r.before.size bc) (Value.slice ap r.after.size ac) (Value.slice up r.units.length uc) = #[.int .i64 2, .int .i64 r.unit, .int .i64 r.page, .int .i64 r.at_, Value.slice bp r.before.size bc, Value.slice ap r.after.size ac, .int .i64 r.back, .int .i64 r.next, .string r.text, Value.slice up r.units.length uc] := by unfold recCells; rw [hk]
  have HN := hid (fun c => (New.refl w).alloc c 70)
  have H1 : Hid (RecAt (w.alloc (.cells (recCells r (Value.slice bp r.before.size bc) (Value.slice ap r.after.size ac) (Value.slice up r.units.length uc)) 70)) r _ _ _) := hid (H.out.new (HN.out _))
  rw [HC]
  have HCC := hid HC
  clear HC hk
  by_cases e1 : wi 0 r.unit 1000000 = true
  case neg =>
    have e1 : wi 0 r.unit 1000000 = false := by simpa using e1
    go_enter Tryz.func101, Tryz.ntmps101
    go_wp2_with fail
    refine (isNumber_any _ _).mono ?_
    rintro e w' ⟨rfl, rfl⟩
    rw [e1]
    go_wp2
    go_ret
    exact ⟨by rw [HV.out, e1]; rfl, HN.out _⟩
  cases hl : laidB r with
  | false =>
    go_enter Tryz.func101, Tryz.ntmps101
    go_wp2_with fail
    refine (isNumber_any _ _).mono ?_
    rintro e w' ⟨rfl, rfl⟩
    rw [e1]
    go_wp2_with fail
    try rw [← HCC.out]
    refine (laid_any r _ _ _ _ H1.out).mono ?_
    rintro e w' ⟨rfl, hnl⟩
    rw [hl]
    go_wp2
    go_ret
    exact ⟨by rw [HV.out, e1, ← laidB_eq, hl]; rfl, (HN.out _).trans hnl⟩
  | true =>
    by_cases c1 : r.before.size = 0
    case neg =>
      have t1 : ((r.before.size : Int) == 0) = false := by simp only [beq_eq_false_iff_ne, ne_eq]; omega
      have t1' : decide (r.before = ByteArray.empty) = false := by rw [decide_eq_false_iff_not, empty_iff]; exact c1
      have Qc1 : Hid (nf r = false) := hid (decide_eq_false c1)
      clear c1
      go_enter Tryz.func101, Tryz.ntmps101
      go_wp2_with fail
      refine (isNumber_any _ _).mono ?_
      rintro e w' ⟨rfl, rfl⟩
      rw [e1]
      go_wp2_with fail
      try rw [← HCC.out]
      refine (laid_any r _ _ _ _ H1.out).mono ?_
      rintro e w' ⟨rfl, hnl⟩
      rw [hl]
      have ml := hnl.made.1
      go_wp2
      go_ret
      exact ⟨by rw [HV.out, e1, ← laidB_eq, hl, Qc1.out]; simp, (HN.out _).trans hnl⟩
    have t1 : ((r.before.size : Int) == 0) = true := by simp only [beq_iff_eq]; omega
    have t1' : (r.before = ByteArray.empty) = True := eq_true ((empty_iff _).2 c1)
    have Qc1 : Hid (nf r = true) := hid (decide_eq_true c1)
    clear c1
    cases c2 : wi 0 r.back 1000000 with
    | false =>
      go_enter Tryz.func101, Tryz.ntmps101
      go_wp2_with fail
      refine (isNumber_any _ _).mono ?_
      rintro e w' ⟨rfl, rfl⟩
      rw [e1]
      go_wp2_with fail
      try rw [← HCC.out]
      refine (laid_any r _ _ _ _ H1.out).mono ?_
      rintro e w' ⟨rfl, hnl⟩
      rw [hl]
      have ml := hnl.made.1
      go_wp2_with fail
      refine (isNumber_any _ _).mono ?_
      rintro e w' ⟨rfl, rfl⟩
      rw [c2]
      go_wp2
      go_ret
      exact ⟨by rw [HV.out, e1, ← laidB_eq, hl, Qc1.out, c2]; simp, (HN.out _).trans hnl⟩
    | true =>
      cases c3 : wi 0 r.next 1000000 with
      | false =>
        go_enter Tryz.func101, Tryz.ntmps101
        go_wp2_with fail
        refine (isNumber_any _ _).mono ?_
        rintro e w' ⟨rfl, rfl⟩
        rw [e1]
        go_wp2_with fail
        try rw [← HCC.out]
        refine (laid_any r _ _ _ _ H1.out).mono ?_
        rintro e w' ⟨rfl, hnl⟩
        rw [hl]
        have ml := hnl.made.1
        go_wp2_with fail
        refine (isNumber_any _ _).mono ?_
        rintro e w' ⟨rfl, rfl⟩
        rw [c2]
        go_wp2_with fail
        refine (isNumber_any _ _).mono ?_
        rintro e w' ⟨rfl, rfl⟩
        rw [c3]
        go_wp2
        go_ret
        exact ⟨by rw [HV.out, e1, ← laidB_eq, hl, Qc1.out, c2, c3]; simp, (HN.out _).trans hnl⟩
      | true =>
        go_enter Tryz.func101, Tryz.ntmps101
        go_wp2_with fail
        refine (isNumber_any _ _).mono ?_
        rintro e w' ⟨rfl, rfl⟩
        rw [e1]
        go_wp2_with fail
        try rw [← HCC.out]
        refine (laid_any r _ _ _ _ H1.out).mono ?_
        rintro e w' ⟨rfl, hnl⟩
        rw [hl]
        have ml := hnl.made.1
        go_wp2_with fail
        refine (isNumber_any _ _).mono ?_
        rintro e w' ⟨rfl, rfl⟩
        rw [c2]
        go_wp2_with fail
        refine (isNumber_any _ _).mono ?_
        rintro e w' ⟨rfl, rfl⟩
        rw [c3]
        have H2 := H1.out.new hnl
        go_wp2_with fail
        try rw [← HCC.out]
        refine (empty_TTTFF r _ _ _ _ H2).mono ?_
        rintro e w' ⟨rfl, hne⟩
        go_wp2
        go_ret
        refine ⟨ret_bool ?_, ((HN.out _).trans hnl).trans hne⟩
        rw [HV.out, e1, ← laidB_eq, hl, Qc1.out, c2, c3]
        simp only [emptyB, np, nf, Bool.false_or, Bool.true_or, Bool.true_and, Bool.and_true]
        generalize nu r = x6; generalize nt r = x7
        revert x6 x7
        decide

set_option maxHeartbeats 4000000 in
set_option maxRecDepth 10000 in
theorem refValid_no (r : Rec) (bv av uv : Value) (w : World) (h : RecAt w r bv av uv) (h1 : (r.kind == 1) = false) (h2 : (r.kind == 2) = false) (h3 : (r.kind == 3) = false) (h4 : (r.kind == 4) = false) (h5 : (r.kind == 5) = false) (h6 : (r.kind == 6) = false) (h7 : (r.kind == 7) = false) :
    Calls Tryz.prog 101 #[.agg (recCells r bv av uv)] w fun e w' => e = .returned (.bool (validB r)) ∧ New w w' := by
  obtain ⟨⟨bp, bc, rfl, b1, b2, _⟩, ⟨ap, ac, rfl, a1, a2, _⟩, ⟨up, uc, rfl, l1, l2, _⟩⟩ := h
  unfold recCells
  have HV : Hid (validB r = false) := hid (by simp only [beq_eq_false_iff_ne, ne_eq] at *; simp [validB, *])
  cases e1 : wi 0 r.unit 1000000 with
  | false =>
    go_enter Tryz.func101, Tryz.ntmps101
    go_wp2_with fail
    refine (isNumber_any _ _).mono ?_
    rintro e w' ⟨rfl, rfl⟩
    rw [e1]
    go_wp2
    go_ret
    exact ⟨by rw [HV.out]; rfl, (New.refl w).alloc _ _⟩
  | true =>
    go_enter Tryz.func101, Tryz.ntmps101
    go_wp2_with fail
    refine (isNumber_any _ _).mono ?_
    rintro e w' ⟨rfl, rfl⟩
    rw [e1]
    go_wp2
    go_ret
    exact ⟨by rw [HV.out]; rfl, (New.refl w).alloc _ _⟩


end Go.Proofs.YtdccbceaajnajaaGreat
