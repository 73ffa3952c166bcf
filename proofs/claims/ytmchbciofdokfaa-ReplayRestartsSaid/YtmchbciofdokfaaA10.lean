/- What tape.Valid returns, for every record. -/
import Derived.Test.YtmchbciofdokfaaA9
namespace Go.Proofs.Ytmchbciofdokfaa
open Go.RowKit
set_option linter.unusedSimpArgs false
set_option linter.unusedVariables false

theorem wi_no {lo n hi : Int} : wi lo n hi = false ↔ ¬ (lo ≤ n ∧ n ≤ hi) := by rw [← wi_iff]; simp

def np (r : Rec) : Bool := decide (r.page = 0) && decide (r.at_ = 0) && decide (r.after.size = 0)
def nf (r : Rec) : Bool := decide (r.before.size = 0)
def nb (r : Rec) : Bool := decide (r.back = 0) && decide (r.next = 0)
def nu (r : Rec) : Bool := decide (r.units.length = 0)
def nt (r : Rec) : Bool := decide (r.text.size = 0)
/-- A record is one. -/
def validB (r : Rec) : Bool :=
  wi 0 r.unit 1000000 &&
  if r.kind = 1 then placeB r && decide (r.before.size = r.after.size) && nb r && nu r && nt r
  else if r.kind = 2 then placeB r && nf r && wi 0 r.back 1000000 && wi 0 r.next 1000000 && nu r && nt r
  else if r.kind = 3 then np r && nf r && nb r && nu r && nt r
  else if r.kind = 4 then np r && nf r && nb r && nu r && nt r
  else if r.kind = 5 then np r && nf r && nb r && nu r && wi 1 r.text.size 30
  else if r.kind = 6 then np r && nf r && nb r && openB r.units && decide (r.unit = 0) && nt r
  else if r.kind = 7 then np r && nf r && nb r && nu r && decide (r.text.size ≤ 200)
  else false

set_option maxHeartbeats 4000000 in
theorem valid_1 (r : Rec) (bv av uv : Value) (w : World) (h : RecAt w r bv av uv) (hk : r.kind = 1) :
    Calls Try.prog 43 #[.agg (recCells r bv av uv)] w fun e w' => e = .returned (.bool (validB r)) ∧ New w w' := by
  have hr := h
  obtain ⟨⟨bp, bc, rfl, b1, b2, _⟩, ⟨ap, ac, rfl, a1, a2, _⟩, ⟨up, uc, rfl, l1, l2, _⟩⟩ := h
  unfold maxLen at a2 b2 l2
  have HV := hid (show validB r = (wi 0 r.unit 1000000 && (placeB r && decide (r.before.size = r.after.size) && nb r && nu r && nt r)) by simp [validB, hk])
  have HC : recCells r (Value.slice bp r.before.size bc) (Value.slice ap r.after.size ac) (Value.slice up r.units.length uc) = #[.int .i64 1, .int .i64 r.unit, .int .i64 r.page, .int .i64 r.at_, Value.slice bp r.before.size bc, Value.slice ap r.after.size ac, .int .i64 r.back, .int .i64 r.next, .string r.text, Value.slice up r.units.length uc] := by unfold recCells; rw [hk]
  rw [HC]
  have HC := hid HC
  clear hk
  by_cases e1 : wi 0 r.unit 1000000 = true
  case neg =>
    have e1 : wi 0 r.unit 1000000 = false := by simpa using e1
    go_enter Try.func43, Try.ntmps43
    go_wp2_with fail
    refine (forms_1 _).mono ?_
    rintro e w2 ⟨rfl, n2⟩
    obtain ⟨q1, q2⟩ := n2.made
    have hz : w.heap.size < w2.heap.size := by have := n2.size; simp at this; omega
    go_wp2_with (go_at_call 71; refine (within_any _ _ _ _).mono ?_; rintro e w' ⟨rfl, rfl⟩)
    go_ret
    exact ⟨ret_bool (by rw [HV.out, e1]; rfl), (((New.refl w).alloc _ _).trans n2).alloc _ _⟩
  go_enter Try.func43, Try.ntmps43
  go_wp2_with fail
  refine (forms_1 _).mono ?_
  rintro e w2 ⟨rfl, n2⟩
  obtain ⟨q1, q2⟩ := n2.made
  have hz : w.heap.size < w2.heap.size := by have := n2.size; simp at this; omega
  by_cases e2 : placeB r = true
  case neg =>
    have e2 : placeB r = false := by simpa using e2
    go_wp2_with fail
    refine (within_any _ _ _ _).mono ?_
    rintro e w' ⟨rfl, rfl⟩
    go_wp2_with fail
    rw [← HC.out]
    refine (isPlace_any r _ _ _ _ (hr.new ((((New.refl w).alloc _ _).trans n2).alloc _ _))).mono ?_
    rintro e w3 ⟨rfl, n3⟩
    go_wp2_with fail
    go_ret
    exact ⟨ret_bool (by rw [HV.out, e2]; simp), ((((New.refl w).alloc _ _).trans n2).alloc _ _).trans n3⟩
  go_wp2_with fail
  refine (within_any _ _ _ _).mono ?_
  rintro e w' ⟨rfl, rfl⟩
  go_wp2_with fail
  rw [← HC.out]
  refine (isPlace_any r _ _ _ _ (hr.new ((((New.refl w).alloc _ _).trans n2).alloc _ _))).mono ?_
  rintro e w3 ⟨rfl, n3⟩
  rw [HC.out]
  clear q1 q2
  obtain ⟨q1, q2⟩ := (n2.trans (((New.refl _).alloc _ _).trans n3)).made
  obtain ⟨q3, q4⟩ := n3.made
  go_wp2_with (go_at_call 71; refine (within_any _ _ _ _).mono ?_; rintro e w' ⟨rfl, rfl⟩)
  all_goals go_ret
  all_goals refine ⟨ret_bool ?_, ((((New.refl w).alloc _ _).trans n2).alloc _ _).trans n3⟩
  all_goals rw [HV.out]
  all_goals rw [Bool.eq_iff_iff]
  all_goals (try simp only [bne_iff_ne, ne_eq, bne_eq_false_iff_eq, List.isEmpty_iff, toList_nil] at *)
  all_goals (simp only [np, nf, nb, nu, nt, e1, e2, Bool.and_eq_true, decide_eq_true_eq, Bool.true_and, Bool.false_and, Bool.and_false, Bool.false_eq_true, false_iff, iff_false])
  all_goals (try simp only [wi_iff, wi_no, Bool.not_eq_true', Bool.not_eq_false', Bool.not_eq_true, Bool.not_eq_false] at *)
  all_goals (try omega)
set_option maxHeartbeats 4000000 in
theorem valid_2 (r : Rec) (bv av uv : Value) (w : World) (h : RecAt w r bv av uv) (hk : r.kind = 2) :
    Calls Try.prog 43 #[.agg (recCells r bv av uv)] w fun e w' => e = .returned (.bool (validB r)) ∧ New w w' := by
  have hr := h
  obtain ⟨⟨bp, bc, rfl, b1, b2, _⟩, ⟨ap, ac, rfl, a1, a2, _⟩, ⟨up, uc, rfl, l1, l2, _⟩⟩ := h
  unfold maxLen at a2 b2 l2
  have HV := hid (show validB r = (wi 0 r.unit 1000000 && (placeB r && nf r && wi 0 r.back 1000000 && wi 0 r.next 1000000 && nu r && nt r)) by simp [validB, hk])
  have HC : recCells r (Value.slice bp r.before.size bc) (Value.slice ap r.after.size ac) (Value.slice up r.units.length uc) = #[.int .i64 2, .int .i64 r.unit, .int .i64 r.page, .int .i64 r.at_, Value.slice bp r.before.size bc, Value.slice ap r.after.size ac, .int .i64 r.back, .int .i64 r.next, .string r.text, Value.slice up r.units.length uc] := by unfold recCells; rw [hk]
  rw [HC]
  have HC := hid HC
  clear hk
  by_cases e1 : wi 0 r.unit 1000000 = true
  case neg =>
    have e1 : wi 0 r.unit 1000000 = false := by simpa using e1
    go_enter Try.func43, Try.ntmps43
    go_wp2_with fail
    refine (forms_2 _).mono ?_
    rintro e w2 ⟨rfl, n2⟩
    obtain ⟨q1, q2⟩ := n2.made
    have hz : w.heap.size < w2.heap.size := by have := n2.size; simp at this; omega
    go_wp2_with (go_at_call 71; refine (within_any _ _ _ _).mono ?_; rintro e w' ⟨rfl, rfl⟩)
    go_ret
    exact ⟨ret_bool (by rw [HV.out, e1]; rfl), (((New.refl w).alloc _ _).trans n2).alloc _ _⟩
  go_enter Try.func43, Try.ntmps43
  go_wp2_with fail
  refine (forms_2 _).mono ?_
  rintro e w2 ⟨rfl, n2⟩
  obtain ⟨q1, q2⟩ := n2.made
  have hz : w.heap.size < w2.heap.size := by have := n2.size; simp at this; omega
  by_cases e2 : placeB r = true
  case neg =>
    have e2 : placeB r = false := by simpa using e2
    go_wp2_with fail
    refine (within_any _ _ _ _).mono ?_
    rintro e w' ⟨rfl, rfl⟩
    go_wp2_with fail
    rw [← HC.out]
    refine (isPlace_any r _ _ _ _ (hr.new ((((New.refl w).alloc _ _).trans n2).alloc _ _))).mono ?_
    rintro e w3 ⟨rfl, n3⟩
    go_wp2_with fail
    go_ret
    exact ⟨ret_bool (by rw [HV.out, e2]; simp), ((((New.refl w).alloc _ _).trans n2).alloc _ _).trans n3⟩
  go_wp2_with fail
  refine (within_any _ _ _ _).mono ?_
  rintro e w' ⟨rfl, rfl⟩
  go_wp2_with fail
  rw [← HC.out]
  refine (isPlace_any r _ _ _ _ (hr.new ((((New.refl w).alloc _ _).trans n2).alloc _ _))).mono ?_
  rintro e w3 ⟨rfl, n3⟩
  rw [HC.out]
  clear q1 q2
  obtain ⟨q1, q2⟩ := (n2.trans (((New.refl _).alloc _ _).trans n3)).made
  obtain ⟨q3, q4⟩ := n3.made
  go_wp2_with (go_at_call 71; refine (within_any _ _ _ _).mono ?_; rintro e w' ⟨rfl, rfl⟩)
  all_goals go_ret
  all_goals refine ⟨ret_bool ?_, ((((New.refl w).alloc _ _).trans n2).alloc _ _).trans n3⟩
  all_goals rw [HV.out]
  all_goals rw [Bool.eq_iff_iff]
  all_goals (try simp only [bne_iff_ne, ne_eq, bne_eq_false_iff_eq, List.isEmpty_iff, toList_nil] at *)
  all_goals (simp only [np, nf, nb, nu, nt, e1, e2, Bool.and_eq_true, decide_eq_true_eq, Bool.true_and, Bool.false_and, Bool.and_false, Bool.false_eq_true, false_iff, iff_false])
  all_goals (try simp only [wi_iff, wi_no, Bool.not_eq_true', Bool.not_eq_false', Bool.not_eq_true, Bool.not_eq_false] at *)
  all_goals (try omega)
set_option maxHeartbeats 4000000 in
theorem valid_3 (r : Rec) (bv av uv : Value) (w : World) (h : RecAt w r bv av uv) (hk : r.kind = 3) :
    Calls Try.prog 43 #[.agg (recCells r bv av uv)] w fun e w' => e = .returned (.bool (validB r)) ∧ New w w' := by
  have hr := h
  obtain ⟨⟨bp, bc, rfl, b1, b2, _⟩, ⟨ap, ac, rfl, a1, a2, _⟩, ⟨up, uc, rfl, l1, l2, _⟩⟩ := h
  unfold maxLen at a2 b2 l2
  have HV := hid (show validB r = (wi 0 r.unit 1000000 && (np r && nf r && nb r && nu r && nt r)) by simp [validB, hk])
  have HC : recCells r (Value.slice bp r.before.size bc) (Value.slice ap r.after.size ac) (Value.slice up r.units.length uc) = #[.int .i64 3, .int .i64 r.unit, .int .i64 r.page, .int .i64 r.at_, Value.slice bp r.before.size bc, Value.slice ap r.after.size ac, .int .i64 r.back, .int .i64 r.next, .string r.text, Value.slice up r.units.length uc] := by unfold recCells; rw [hk]
  rw [HC]
  have HC := hid HC
  clear hk
  by_cases e1 : wi 0 r.unit 1000000 = true
  case neg =>
    have e1 : wi 0 r.unit 1000000 = false := by simpa using e1
    go_enter Try.func43, Try.ntmps43
    go_wp2_with fail
    refine (forms_3 _).mono ?_
    rintro e w2 ⟨rfl, n2⟩
    obtain ⟨q1, q2⟩ := n2.made
    have hz : w.heap.size < w2.heap.size := by have := n2.size; simp at this; omega
    go_wp2_with (go_at_call 71; refine (within_any _ _ _ _).mono ?_; rintro e w' ⟨rfl, rfl⟩)
    go_ret
    exact ⟨ret_bool (by rw [HV.out, e1]; rfl), (((New.refl w).alloc _ _).trans n2).alloc _ _⟩
  go_enter Try.func43, Try.ntmps43
  go_wp2_with fail
  refine (forms_3 _).mono ?_
  rintro e w2 ⟨rfl, n2⟩
  obtain ⟨q1, q2⟩ := n2.made
  have hz : w.heap.size < w2.heap.size := by have := n2.size; simp at this; omega
  go_wp2_with (go_at_call 71; refine (within_any _ _ _ _).mono ?_; rintro e w' ⟨rfl, rfl⟩)
  all_goals go_ret
  all_goals refine ⟨ret_bool ?_, (((New.refl w).alloc _ _).trans n2).alloc _ _⟩
  all_goals rw [HV.out]
  all_goals rw [Bool.eq_iff_iff]
  all_goals (try simp only [bne_iff_ne, ne_eq, bne_eq_false_iff_eq, List.isEmpty_iff, toList_nil] at *)
  all_goals (simp only [np, nf, nb, nu, nt, e1, Bool.and_eq_true, decide_eq_true_eq, Bool.true_and, Bool.false_and, Bool.and_false, Bool.false_eq_true, false_iff, iff_false])
  all_goals (try simp only [wi_iff, wi_no, Bool.not_eq_true', Bool.not_eq_false', Bool.not_eq_true, Bool.not_eq_false] at *)
  all_goals (try omega)
set_option maxHeartbeats 4000000 in
theorem valid_4 (r : Rec) (bv av uv : Value) (w : World) (h : RecAt w r bv av uv) (hk : r.kind = 4) :
    Calls Try.prog 43 #[.agg (recCells r bv av uv)] w fun e w' => e = .returned (.bool (validB r)) ∧ New w w' := by
  have hr := h
  obtain ⟨⟨bp, bc, rfl, b1, b2, _⟩, ⟨ap, ac, rfl, a1, a2, _⟩, ⟨up, uc, rfl, l1, l2, _⟩⟩ := h
  unfold maxLen at a2 b2 l2
  have HV := hid (show validB r = (wi 0 r.unit 1000000 && (np r && nf r && nb r && nu r && nt r)) by simp [validB, hk])
  have HC : recCells r (Value.slice bp r.before.size bc) (Value.slice ap r.after.size ac) (Value.slice up r.units.length uc) = #[.int .i64 4, .int .i64 r.unit, .int .i64 r.page, .int .i64 r.at_, Value.slice bp r.before.size bc, Value.slice ap r.after.size ac, .int .i64 r.back, .int .i64 r.next, .string r.text, Value.slice up r.units.length uc] := by unfold recCells; rw [hk]
  rw [HC]
  have HC := hid HC
  clear hk
  by_cases e1 : wi 0 r.unit 1000000 = true
  case neg =>
    have e1 : wi 0 r.unit 1000000 = false := by simpa using e1
    go_enter Try.func43, Try.ntmps43
    go_wp2_with fail
    refine (forms_4 _).mono ?_
    rintro e w2 ⟨rfl, n2⟩
    obtain ⟨q1, q2⟩ := n2.made
    have hz : w.heap.size < w2.heap.size := by have := n2.size; simp at this; omega
    go_wp2_with (go_at_call 71; refine (within_any _ _ _ _).mono ?_; rintro e w' ⟨rfl, rfl⟩)
    go_ret
    exact ⟨ret_bool (by rw [HV.out, e1]; rfl), (((New.refl w).alloc _ _).trans n2).alloc _ _⟩
  go_enter Try.func43, Try.ntmps43
  go_wp2_with fail
  refine (forms_4 _).mono ?_
  rintro e w2 ⟨rfl, n2⟩
  obtain ⟨q1, q2⟩ := n2.made
  have hz : w.heap.size < w2.heap.size := by have := n2.size; simp at this; omega
  go_wp2_with (go_at_call 71; refine (within_any _ _ _ _).mono ?_; rintro e w' ⟨rfl, rfl⟩)
  all_goals go_ret
  all_goals refine ⟨ret_bool ?_, (((New.refl w).alloc _ _).trans n2).alloc _ _⟩
  all_goals rw [HV.out]
  all_goals rw [Bool.eq_iff_iff]
  all_goals (try simp only [bne_iff_ne, ne_eq, bne_eq_false_iff_eq, List.isEmpty_iff, toList_nil] at *)
  all_goals (simp only [np, nf, nb, nu, nt, e1, Bool.and_eq_true, decide_eq_true_eq, Bool.true_and, Bool.false_and, Bool.and_false, Bool.false_eq_true, false_iff, iff_false])
  all_goals (try simp only [wi_iff, wi_no, Bool.not_eq_true', Bool.not_eq_false', Bool.not_eq_true, Bool.not_eq_false] at *)
  all_goals (try omega)
set_option maxHeartbeats 4000000 in
theorem valid_5 (r : Rec) (bv av uv : Value) (w : World) (h : RecAt w r bv av uv) (hk : r.kind = 5) :
    Calls Try.prog 43 #[.agg (recCells r bv av uv)] w fun e w' => e = .returned (.bool (validB r)) ∧ New w w' := by
  have hr := h
  obtain ⟨⟨bp, bc, rfl, b1, b2, _⟩, ⟨ap, ac, rfl, a1, a2, _⟩, ⟨up, uc, rfl, l1, l2, _⟩⟩ := h
  unfold maxLen at a2 b2 l2
  have HV := hid (show validB r = (wi 0 r.unit 1000000 && (np r && nf r && nb r && nu r && wi 1 r.text.size 30)) by simp [validB, hk])
  have HC : recCells r (Value.slice bp r.before.size bc) (Value.slice ap r.after.size ac) (Value.slice up r.units.length uc) = #[.int .i64 5, .int .i64 r.unit, .int .i64 r.page, .int .i64 r.at_, Value.slice bp r.before.size bc, Value.slice ap r.after.size ac, .int .i64 r.back, .int .i64 r.next, .string r.text, Value.slice up r.units.length uc] := by unfold recCells; rw [hk]
  rw [HC]
  have HC := hid HC
  clear hk
  by_cases e1 : wi 0 r.unit 1000000 = true
  case neg =>
    have e1 : wi 0 r.unit 1000000 = false := by simpa using e1
    go_enter Try.func43, Try.ntmps43
    go_wp2_with fail
    refine (forms_5 _).mono ?_
    rintro e w2 ⟨rfl, n2⟩
    obtain ⟨q1, q2⟩ := n2.made
    have hz : w.heap.size < w2.heap.size := by have := n2.size; simp at this; omega
    go_wp2_with (go_at_call 71; refine (within_any _ _ _ _).mono ?_; rintro e w' ⟨rfl, rfl⟩)
    go_ret
    exact ⟨ret_bool (by rw [HV.out, e1]; rfl), (((New.refl w).alloc _ _).trans n2).alloc _ _⟩
  go_enter Try.func43, Try.ntmps43
  go_wp2_with fail
  refine (forms_5 _).mono ?_
  rintro e w2 ⟨rfl, n2⟩
  obtain ⟨q1, q2⟩ := n2.made
  have hz : w.heap.size < w2.heap.size := by have := n2.size; simp at this; omega
  go_wp2_with (go_at_call 71; refine (within_any _ _ _ _).mono ?_; rintro e w' ⟨rfl, rfl⟩)
  all_goals go_ret
  all_goals refine ⟨ret_bool ?_, (((New.refl w).alloc _ _).trans n2).alloc _ _⟩
  all_goals rw [HV.out]
  all_goals rw [Bool.eq_iff_iff]
  all_goals (try simp only [bne_iff_ne, ne_eq, bne_eq_false_iff_eq, List.isEmpty_iff, toList_nil] at *)
  all_goals (simp only [np, nf, nb, nu, nt, e1, Bool.and_eq_true, decide_eq_true_eq, Bool.true_and, Bool.false_and, Bool.and_false, Bool.false_eq_true, false_iff, iff_false])
  all_goals (try simp only [wi_iff, wi_no, Bool.not_eq_true', Bool.not_eq_false', Bool.not_eq_true, Bool.not_eq_false] at *)
  all_goals (try omega)
set_option maxHeartbeats 4000000 in
theorem valid_6 (r : Rec) (bv av uv : Value) (w : World) (h : RecAt w r bv av uv) (hk : r.kind = 6) :
    Calls Try.prog 43 #[.agg (recCells r bv av uv)] w fun e w' => e = .returned (.bool (validB r)) ∧ New w w' := by
  have hr := h
  obtain ⟨⟨bp, bc, rfl, b1, b2, _⟩, ⟨ap, ac, rfl, a1, a2, _⟩, ⟨up, uc, rfl, l1, l2, _⟩⟩ := h
  unfold maxLen at a2 b2 l2
  have HV := hid (show validB r = (wi 0 r.unit 1000000 && (np r && nf r && nb r && openB r.units && decide (r.unit = 0) && nt r)) by simp [validB, hk])
  have HC : recCells r (Value.slice bp r.before.size bc) (Value.slice ap r.after.size ac) (Value.slice up r.units.length uc) = #[.int .i64 6, .int .i64 r.unit, .int .i64 r.page, .int .i64 r.at_, Value.slice bp r.before.size bc, Value.slice ap r.after.size ac, .int .i64 r.back, .int .i64 r.next, .string r.text, Value.slice up r.units.length uc] := by unfold recCells; rw [hk]
  rw [HC]
  have HC := hid HC
  clear hk
  by_cases e1 : wi 0 r.unit 1000000 = true
  case neg =>
    have e1 : wi 0 r.unit 1000000 = false := by simpa using e1
    go_enter Try.func43, Try.ntmps43
    go_wp2_with fail
    refine (forms_6 _).mono ?_
    rintro e w2 ⟨rfl, n2⟩
    obtain ⟨q1, q2⟩ := n2.made
    have hz : w.heap.size < w2.heap.size := by have := n2.size; simp at this; omega
    go_wp2_with (go_at_call 71; refine (within_any _ _ _ _).mono ?_; rintro e w' ⟨rfl, rfl⟩)
    go_ret
    exact ⟨ret_bool (by rw [HV.out, e1]; rfl), (((New.refl w).alloc _ _).trans n2).alloc _ _⟩
  go_enter Try.func43, Try.ntmps43
  go_wp2_with fail
  refine (forms_6 _).mono ?_
  rintro e w2 ⟨rfl, n2⟩
  obtain ⟨q1, q2⟩ := n2.made
  have hz : w.heap.size < w2.heap.size := by have := n2.size; simp at this; omega
  by_cases e3 : openB r.units = true
  case neg =>
    have e3 : openB r.units = false := by simpa using e3
    go_wp2_with (first | (go_at_call 71; refine (within_any _ _ _ _).mono ?_; rintro e w' ⟨rfl, rfl⟩) | (go_at_call 73; refine (areOpen_any _ _ _ (hr.units.new ((((New.refl w).alloc _ _).trans n2).alloc _ _))).mono ?_; rintro e w3 ⟨rfl, n3⟩; clear q1 q2; obtain ⟨q1, q2⟩ := (n2.trans (((New.refl _).alloc _ _).trans n3)).made; obtain ⟨q3, q4⟩ := n3.made))
    all_goals go_ret
    all_goals refine ⟨ret_bool ?_, by first | exact (((New.refl w).alloc _ _).trans n2).alloc _ _ | exact ((((New.refl w).alloc _ _).trans n2).alloc _ _).trans (by assumption)⟩
    all_goals rw [HV.out]
    all_goals rw [Bool.eq_iff_iff]
    all_goals (try simp only [bne_iff_ne, ne_eq, bne_eq_false_iff_eq, List.isEmpty_iff, toList_nil] at *)
    all_goals (simp only [np, nf, nb, nu, nt, e1, e3, Bool.and_eq_true, decide_eq_true_eq, Bool.true_and, Bool.false_and, Bool.and_false, Bool.false_eq_true, false_iff, iff_false, and_true, true_and, false_and, and_false, not_false_eq_true])
    all_goals (try omega)
  go_wp2_with (first | (go_at_call 71; refine (within_any _ _ _ _).mono ?_; rintro e w' ⟨rfl, rfl⟩) | (go_at_call 73; refine (areOpen_any _ _ _ (hr.units.new ((((New.refl w).alloc _ _).trans n2).alloc _ _))).mono ?_; rintro e w3 ⟨rfl, n3⟩; clear q1 q2; obtain ⟨q1, q2⟩ := (n2.trans (((New.refl _).alloc _ _).trans n3)).made; obtain ⟨q3, q4⟩ := n3.made))
  all_goals go_ret
  all_goals refine ⟨ret_bool ?_, by first | exact (((New.refl w).alloc _ _).trans n2).alloc _ _ | exact ((((New.refl w).alloc _ _).trans n2).alloc _ _).trans (by assumption)⟩
  all_goals rw [HV.out]
  all_goals rw [Bool.eq_iff_iff]
  all_goals (try simp only [bne_iff_ne, ne_eq, bne_eq_false_iff_eq, List.isEmpty_iff, toList_nil] at *)
  all_goals (simp only [np, nf, nb, nu, nt, e1, e3, Bool.and_eq_true, decide_eq_true_eq, Bool.true_and, Bool.false_and, Bool.and_false, Bool.false_eq_true, false_iff, iff_false, and_true, true_and, false_and, and_false, not_false_eq_true])
  all_goals (try omega)
set_option maxHeartbeats 4000000 in
theorem valid_7 (r : Rec) (bv av uv : Value) (w : World) (h : RecAt w r bv av uv) (hk : r.kind = 7) :
    Calls Try.prog 43 #[.agg (recCells r bv av uv)] w fun e w' => e = .returned (.bool (validB r)) ∧ New w w' := by
  have hr := h
  obtain ⟨⟨bp, bc, rfl, b1, b2, _⟩, ⟨ap, ac, rfl, a1, a2, _⟩, ⟨up, uc, rfl, l1, l2, _⟩⟩ := h
  unfold maxLen at a2 b2 l2
  have HV := hid (show validB r = (wi 0 r.unit 1000000 && (np r && nf r && nb r && nu r && decide (r.text.size ≤ 200))) by simp [validB, hk])
  have HC : recCells r (Value.slice bp r.before.size bc) (Value.slice ap r.after.size ac) (Value.slice up r.units.length uc) = #[.int .i64 7, .int .i64 r.unit, .int .i64 r.page, .int .i64 r.at_, Value.slice bp r.before.size bc, Value.slice ap r.after.size ac, .int .i64 r.back, .int .i64 r.next, .string r.text, Value.slice up r.units.length uc] := by unfold recCells; rw [hk]
  rw [HC]
  have HC := hid HC
  clear hk
  by_cases e1 : wi 0 r.unit 1000000 = true
  case neg =>
    have e1 : wi 0 r.unit 1000000 = false := by simpa using e1
    go_enter Try.func43, Try.ntmps43
    go_wp2_with fail
    refine (forms_7 _).mono ?_
    rintro e w2 ⟨rfl, n2⟩
    obtain ⟨q1, q2⟩ := n2.made
    have hz : w.heap.size < w2.heap.size := by have := n2.size; simp at this; omega
    go_wp2_with (go_at_call 71; refine (within_any _ _ _ _).mono ?_; rintro e w' ⟨rfl, rfl⟩)
    go_ret
    exact ⟨ret_bool (by rw [HV.out, e1]; rfl), (((New.refl w).alloc _ _).trans n2).alloc _ _⟩
  go_enter Try.func43, Try.ntmps43
  go_wp2_with fail
  refine (forms_7 _).mono ?_
  rintro e w2 ⟨rfl, n2⟩
  obtain ⟨q1, q2⟩ := n2.made
  have hz : w.heap.size < w2.heap.size := by have := n2.size; simp at this; omega
  go_wp2_with (go_at_call 71; refine (within_any _ _ _ _).mono ?_; rintro e w' ⟨rfl, rfl⟩)
  all_goals go_ret
  all_goals refine ⟨ret_bool ?_, (((New.refl w).alloc _ _).trans n2).alloc _ _⟩
  all_goals rw [HV.out]
  all_goals rw [Bool.eq_iff_iff]
  all_goals (try simp only [bne_iff_ne, ne_eq, bne_eq_false_iff_eq, List.isEmpty_iff, toList_nil] at *)
  all_goals (simp only [np, nf, nb, nu, nt, e1, Bool.and_eq_true, decide_eq_true_eq, Bool.true_and, Bool.false_and, Bool.and_false, Bool.false_eq_true, false_iff, iff_false])
  all_goals (try simp only [wi_iff, wi_no, Bool.not_eq_true', Bool.not_eq_false', Bool.not_eq_true, Bool.not_eq_false] at *)
  all_goals (try omega)

set_option maxHeartbeats 1000000 in
theorem valid_no (r : Rec) (bv av uv : Value) (w : World) (h1 : (r.kind == 1) = false) (h2 : (r.kind == 2) = false) (h3 : (r.kind == 3) = false) (h4 : (r.kind == 4) = false) (h5 : (r.kind == 5) = false) (h6 : (r.kind == 6) = false) (h7 : (r.kind == 7) = false) :
    Calls Try.prog 43 #[.agg (recCells r bv av uv)] w fun e w' => e = .returned (.bool (validB r)) ∧ New w w' := by
  have HV := hid (show validB r = false by simp at h1 h2 h3 h4 h5 h6 h7; simp [validB, h1, h2, h3, h4, h5, h6, h7])
  unfold recCells
  go_enter Try.func43, Try.ntmps43
  go_wp2_with fail
  refine (forms_no _ _ h1 h2 h3 h4 h5 h6 h7).mono ?_
  rintro e w2 ⟨rfl, n2⟩
  go_wp2_with fail
  go_ret
  exact ⟨ret_bool HV.out.symm, (((New.refl w).alloc _ _).trans n2).alloc _ _⟩

theorem valid_any (r : Rec) (bv av uv : Value) (w : World) (h : RecAt w r bv av uv) :
    Calls Try.prog 43 #[.agg (recCells r bv av uv)] w fun e w' => e = .returned (.bool (validB r)) ∧ New w w' := by
  by_cases h1 : r.kind = 1
  · exact valid_1 r bv av uv w h h1
  by_cases h2 : r.kind = 2
  · exact valid_2 r bv av uv w h h2
  by_cases h3 : r.kind = 3
  · exact valid_3 r bv av uv w h h3
  by_cases h4 : r.kind = 4
  · exact valid_4 r bv av uv w h h4
  by_cases h5 : r.kind = 5
  · exact valid_5 r bv av uv w h h5
  by_cases h6 : r.kind = 6
  · exact valid_6 r bv av uv w h h6
  by_cases h7 : r.kind = 7
  · exact valid_7 r bv av uv w h h7
  exact valid_no r bv av uv w (by simpa using h1) (by simpa using h2) (by simpa using h3) (by simpa using h4) (by simpa using h5) (by simpa using h6) (by simpa using h7)

end Go.Proofs.Ytmchbciofdokfaa
