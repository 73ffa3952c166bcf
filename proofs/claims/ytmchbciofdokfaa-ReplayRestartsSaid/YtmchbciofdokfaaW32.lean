/- progenyref06.isRecord: which records are. progenyref06.isRecord: which records are. progenyref06.isRecord: which records are. progenyref06.isRecord: which records are. progenyref06.isRecord: which records are. progenyref06.isRecord: which records are. progenyref06.isRecord: a record of no kind is none. progenyref06.isRecord: which records are, for each record. -/
import Derived.Test.YtmchbciofdokfaaW29
import Derived.Test.YtmchbciofdokfaaW302
namespace Go.Proofs.Ytmchbciofdokfaa
open Go.RowKit
set_option linter.unusedSimpArgs false
set_option linter.unusedVariables false


set_option maxHeartbeats 8000000 in
set_option maxRecDepth 100000 in
theorem refRec_1 (r : Rec) (bv av uv : Value) (w : World) (h : RecAt w r bv av uv) (hk : r.kind = 1) :
    Calls Try.prog 44 #[.agg (recCells r bv av uv)] w fun e w' => e = .returned (.bool (validB r)) ∧ New w w' := by
  obtain ⟨⟨bp, bc, rfl, b1, b2, _⟩, ⟨ap, ac, rfl, a1, a2, _⟩, ⟨up, uc, rfl, l1, l2, _⟩⟩ := h
  unfold maxLen at a2 b2 l2
  have HV : Hid (validB r = (wi 0 r.unit 1000000 && (placeB r && decide (r.before.size = r.after.size) && nb r && nu r && nt r))) := hid (by simp [validB, hk])
  have HC : (recCells r (Value.slice bp r.before.size bc) (Value.slice ap r.after.size ac) (Value.slice up r.units.length uc)) = #[.int .i64 1, .int .i64 r.unit, .int .i64 r.page, .int .i64 r.at_, Value.slice bp r.before.size bc, Value.slice ap r.after.size ac, .int .i64 r.back, .int .i64 r.next, .string r.text, Value.slice up r.units.length uc] := by unfold recCells; rw [hk]
  rw [HC]
  clear HC hk
  by_cases e1 : wi 0 r.unit 1000000 = true
  case neg =>
    have e1 : wi 0 r.unit 1000000 = false := by simpa using e1
    go_enter Try.func44, Try.ntmps44
    go_wp2_with fail
    refine (refNum_any _ _).mono ?_
    rintro e w' ⟨rfl, rfl⟩
    rw [e1]
    go_wp2
    go_ret
    exact ⟨ret_bool (by rw [HV.out, e1]; rfl), (New.refl w).alloc _ _⟩
  go_enter Try.func44, Try.ntmps44
  go_wp2_with fail
  refine (refNum_any _ _).mono ?_
  rintro e w' ⟨rfl, rfl⟩
  rw [e1]
  have HV2 : Hid (validB r = (placeB r && decide (r.before.size = r.after.size) && nb r && nu r && nt r)) := hid (by rw [HV.out, e1]; rfl)
  obtain ⟨P, e2⟩ : ∃ P, placeB r = P := ⟨_, rfl⟩
  cases P
  case false =>
    by_cases c_before : r.before.size = 0
    case neg =>
      have y_before := hid c_before
      have p_before : decide (0 < r.before.size) = true := decide_eq_true (by omega)
      have s_before : ((r.before.size : Int) == 0) = false := beq_eq_false_iff_ne.2 (by omega)
      clear c_before
      by_cases c_back : r.back = 0
      case neg =>
        have y_back := hid c_back
        have p_back : (r.back == 0) = false := beq_eq_false_iff_ne.2 c_back
        have q_back : (r.back != 0) = true := bne_iff_ne.2 c_back
        clear c_back
        go_wp2_with fail
        refine (refPlace_any _ _ _ _).mono ?_
        rintro e w' ⟨rfl, rfl⟩
        rw [placeN_is, e2]
        go_wp2
        go_ret
        exact ⟨ret_bool (by rw [HV2.out, e2]; rfl), (New.refl w).alloc _ _⟩
      have y_back := hid c_back
      have p_back : (r.back == 0) = true := beq_iff_eq.2 c_back
      have q_back : (r.back != 0) = false := by rw [c_back]; rfl
      clear c_back
      by_cases c_next : r.next = 0
      case neg =>
        have y_next := hid c_next
        have p_next : (r.next == 0) = false := beq_eq_false_iff_ne.2 c_next
        have q_next : (r.next != 0) = true := bne_iff_ne.2 c_next
        clear c_next
        go_wp2_with fail
        refine (refPlace_any _ _ _ _).mono ?_
        rintro e w' ⟨rfl, rfl⟩
        rw [placeN_is, e2]
        go_wp2
        go_ret
        exact ⟨ret_bool (by rw [HV2.out, e2]; rfl), (New.refl w).alloc _ _⟩
      have y_next := hid c_next
      have p_next : (r.next == 0) = true := beq_iff_eq.2 c_next
      have q_next : (r.next != 0) = false := by rw [c_next]; rfl
      clear c_next
      go_wp2_with fail
      refine (refPlace_any _ _ _ _).mono ?_
      rintro e w' ⟨rfl, rfl⟩
      rw [placeN_is, e2]
      go_wp2
      go_ret
      exact ⟨ret_bool (by rw [HV2.out, e2]; rfl), (New.refl w).alloc _ _⟩
    have y_before := hid c_before
    have p_before : decide (0 < r.before.size) = false := decide_eq_false (by omega)
    have s_before : ((r.before.size : Int) == 0) = true := beq_iff_eq.2 (by omega)
    clear c_before
    by_cases c_after : r.after.size = 0
    case neg =>
      have y_after := hid c_after
      have p_after : decide (0 < r.after.size) = true := decide_eq_true (by omega)
      have s_after : ((r.after.size : Int) == 0) = false := beq_eq_false_iff_ne.2 (by omega)
      clear c_after
      by_cases c_back : r.back = 0
      case neg =>
        have y_back := hid c_back
        have p_back : (r.back == 0) = false := beq_eq_false_iff_ne.2 c_back
        have q_back : (r.back != 0) = true := bne_iff_ne.2 c_back
        clear c_back
        go_wp2_with fail
        refine (refPlace_any _ _ _ _).mono ?_
        rintro e w' ⟨rfl, rfl⟩
        rw [placeN_is, e2]
        go_wp2
        go_ret
        exact ⟨ret_bool (by rw [HV2.out, e2]; rfl), (New.refl w).alloc _ _⟩
      have y_back := hid c_back
      have p_back : (r.back == 0) = true := beq_iff_eq.2 c_back
      have q_back : (r.back != 0) = false := by rw [c_back]; rfl
      clear c_back
      by_cases c_next : r.next = 0
      case neg =>
        have y_next := hid c_next
        have p_next : (r.next == 0) = false := beq_eq_false_iff_ne.2 c_next
        have q_next : (r.next != 0) = true := bne_iff_ne.2 c_next
        clear c_next
        go_wp2_with fail
        refine (refPlace_any _ _ _ _).mono ?_
        rintro e w' ⟨rfl, rfl⟩
        rw [placeN_is, e2]
        go_wp2
        go_ret
        exact ⟨ret_bool (by rw [HV2.out, e2]; rfl), (New.refl w).alloc _ _⟩
      have y_next := hid c_next
      have p_next : (r.next == 0) = true := beq_iff_eq.2 c_next
      have q_next : (r.next != 0) = false := by rw [c_next]; rfl
      clear c_next
      go_wp2_with fail
      refine (refPlace_any _ _ _ _).mono ?_
      rintro e w' ⟨rfl, rfl⟩
      rw [placeN_is, e2]
      go_wp2
      go_ret
      exact ⟨ret_bool (by rw [HV2.out, e2]; rfl), (New.refl w).alloc _ _⟩
    have y_after := hid c_after
    have p_after : decide (0 < r.after.size) = false := decide_eq_false (by omega)
    have s_after : ((r.after.size : Int) == 0) = true := beq_iff_eq.2 (by omega)
    clear c_after
    by_cases c_page : r.page = 0
    case neg =>
      have y_page := hid c_page
      have p_page : (r.page == 0) = false := beq_eq_false_iff_ne.2 c_page
      have q_page : (r.page != 0) = true := bne_iff_ne.2 c_page
      clear c_page
      by_cases c_back : r.back = 0
      case neg =>
        have y_back := hid c_back
        have p_back : (r.back == 0) = false := beq_eq_false_iff_ne.2 c_back
        have q_back : (r.back != 0) = true := bne_iff_ne.2 c_back
        clear c_back
        go_wp2_with fail
        refine (refPlace_any _ _ _ _).mono ?_
        rintro e w' ⟨rfl, rfl⟩
        rw [placeN_is, e2]
        go_wp2
        go_ret
        exact ⟨ret_bool (by rw [HV2.out, e2]; rfl), (New.refl w).alloc _ _⟩
      have y_back := hid c_back
      have p_back : (r.back == 0) = true := beq_iff_eq.2 c_back
      have q_back : (r.back != 0) = false := by rw [c_back]; rfl
      clear c_back
      by_cases c_next : r.next = 0
      case neg =>
        have y_next := hid c_next
        have p_next : (r.next == 0) = false := beq_eq_false_iff_ne.2 c_next
        have q_next : (r.next != 0) = true := bne_iff_ne.2 c_next
        clear c_next
        go_wp2_with fail
        refine (refPlace_any _ _ _ _).mono ?_
        rintro e w' ⟨rfl, rfl⟩
        rw [placeN_is, e2]
        go_wp2
        go_ret
        exact ⟨ret_bool (by rw [HV2.out, e2]; rfl), (New.refl w).alloc _ _⟩
      have y_next := hid c_next
      have p_next : (r.next == 0) = true := beq_iff_eq.2 c_next
      have q_next : (r.next != 0) = false := by rw [c_next]; rfl
      clear c_next
      go_wp2_with fail
      refine (refPlace_any _ _ _ _).mono ?_
      rintro e w' ⟨rfl, rfl⟩
      rw [placeN_is, e2]
      go_wp2
      go_ret
      exact ⟨ret_bool (by rw [HV2.out, e2]; rfl), (New.refl w).alloc _ _⟩
    have y_page := hid c_page
    have p_page : (r.page == 0) = true := beq_iff_eq.2 c_page
    have q_page : (r.page != 0) = false := by rw [c_page]; rfl
    clear c_page
    by_cases c_at : r.at_ = 0
    case neg =>
      have y_at := hid c_at
      have p_at : (r.at_ == 0) = false := beq_eq_false_iff_ne.2 c_at
      have q_at : (r.at_ != 0) = true := bne_iff_ne.2 c_at
      clear c_at
      by_cases c_back : r.back = 0
      case neg =>
        have y_back := hid c_back
        have p_back : (r.back == 0) = false := beq_eq_false_iff_ne.2 c_back
        have q_back : (r.back != 0) = true := bne_iff_ne.2 c_back
        clear c_back
        go_wp2_with fail
        refine (refPlace_any _ _ _ _).mono ?_
        rintro e w' ⟨rfl, rfl⟩
        rw [placeN_is, e2]
        go_wp2
        go_ret
        exact ⟨ret_bool (by rw [HV2.out, e2]; rfl), (New.refl w).alloc _ _⟩
      have y_back := hid c_back
      have p_back : (r.back == 0) = true := beq_iff_eq.2 c_back
      have q_back : (r.back != 0) = false := by rw [c_back]; rfl
      clear c_back
      by_cases c_next : r.next = 0
      case neg =>
        have y_next := hid c_next
        have p_next : (r.next == 0) = false := beq_eq_false_iff_ne.2 c_next
        have q_next : (r.next != 0) = true := bne_iff_ne.2 c_next
        clear c_next
        go_wp2_with fail
        refine (refPlace_any _ _ _ _).mono ?_
        rintro e w' ⟨rfl, rfl⟩
        rw [placeN_is, e2]
        go_wp2
        go_ret
        exact ⟨ret_bool (by rw [HV2.out, e2]; rfl), (New.refl w).alloc _ _⟩
      have y_next := hid c_next
      have p_next : (r.next == 0) = true := beq_iff_eq.2 c_next
      have q_next : (r.next != 0) = false := by rw [c_next]; rfl
      clear c_next
      go_wp2_with fail
      refine (refPlace_any _ _ _ _).mono ?_
      rintro e w' ⟨rfl, rfl⟩
      rw [placeN_is, e2]
      go_wp2
      go_ret
      exact ⟨ret_bool (by rw [HV2.out, e2]; rfl), (New.refl w).alloc _ _⟩
    have y_at := hid c_at
    have p_at : (r.at_ == 0) = true := beq_iff_eq.2 c_at
    have q_at : (r.at_ != 0) = false := by rw [c_at]; rfl
    clear c_at
    by_cases c_back : r.back = 0
    case neg =>
      have y_back := hid c_back
      have p_back : (r.back == 0) = false := beq_eq_false_iff_ne.2 c_back
      have q_back : (r.back != 0) = true := bne_iff_ne.2 c_back
      clear c_back
      go_wp2_with fail
      refine (refPlace_any _ _ _ _).mono ?_
      rintro e w' ⟨rfl, rfl⟩
      rw [placeN_is, e2]
      go_wp2
      go_ret
      exact ⟨ret_bool (by rw [HV2.out, e2]; rfl), (New.refl w).alloc _ _⟩
    have y_back := hid c_back
    have p_back : (r.back == 0) = true := beq_iff_eq.2 c_back
    have q_back : (r.back != 0) = false := by rw [c_back]; rfl
    clear c_back
    by_cases c_next : r.next = 0
    case neg =>
      have y_next := hid c_next
      have p_next : (r.next == 0) = false := beq_eq_false_iff_ne.2 c_next
      have q_next : (r.next != 0) = true := bne_iff_ne.2 c_next
      clear c_next
      go_wp2_with fail
      refine (refPlace_any _ _ _ _).mono ?_
      rintro e w' ⟨rfl, rfl⟩
      rw [placeN_is, e2]
      go_wp2
      go_ret
      exact ⟨ret_bool (by rw [HV2.out, e2]; rfl), (New.refl w).alloc _ _⟩
    have y_next := hid c_next
    have p_next : (r.next == 0) = true := beq_iff_eq.2 c_next
    have q_next : (r.next != 0) = false := by rw [c_next]; rfl
    clear c_next
    go_wp2_with fail
    refine (refPlace_any _ _ _ _).mono ?_
    rintro e w' ⟨rfl, rfl⟩
    rw [placeN_is, e2]
    go_wp2
    go_ret
    exact ⟨ret_bool (by rw [HV2.out, e2]; rfl), (New.refl w).alloc _ _⟩
  by_cases c_before : r.before.size = 0
  case neg =>
    have y_before := hid c_before
    have p_before : decide (0 < r.before.size) = true := decide_eq_true (by omega)
    have s_before : ((r.before.size : Int) == 0) = false := beq_eq_false_iff_ne.2 (by omega)
    clear c_before
    by_cases c_back : r.back = 0
    case neg =>
      have y_back := hid c_back
      have p_back : (r.back == 0) = false := beq_eq_false_iff_ne.2 c_back
      have q_back : (r.back != 0) = true := bne_iff_ne.2 c_back
      clear c_back
      go_wp2_with fail
      refine (refPlace_any _ _ _ _).mono ?_
      rintro e w' ⟨rfl, rfl⟩
      rw [placeN_is, e2]
      go_wp2
      all_goals go_ret
      all_goals refine ⟨ret_bool ?_, (New.refl w).alloc _ _⟩
      all_goals (rw [HV2.out, e2]; simp only [nb, nu, nt, y_before.out, y_back.out, decide_true, decide_false, Bool.and_true, Bool.and_false, Bool.false_and, Bool.true_and])
      all_goals have z_before := y_before.out
      all_goals first
        | done
        | rfl
        | ((have q := toList_nil.1 (by assumption : r.text.toList = [])); rw [Bool.eq_iff_iff]; simp only [beq_iff_eq, Bool.and_eq_true, decide_eq_true_eq, Bool.false_eq_true, false_iff]; omega)
        | ((have q : ¬ r.text.size = 0 := fun e => (by assumption : ¬ r.text.toList = []) (toList_nil.2 e)); rw [Bool.eq_iff_iff]; simp only [beq_iff_eq, Bool.and_eq_true, decide_eq_true_eq, Bool.false_eq_true, false_iff]; omega)
        | (rw [Bool.eq_iff_iff]; simp only [beq_iff_eq, Bool.and_eq_true, decide_eq_true_eq, Bool.false_eq_true, false_iff]; omega)

    have y_back := hid c_back
    have p_back : (r.back == 0) = true := beq_iff_eq.2 c_back
    have q_back : (r.back != 0) = false := by rw [c_back]; rfl
    clear c_back
    by_cases c_next : r.next = 0
    case neg =>
      have y_next := hid c_next
      have p_next : (r.next == 0) = false := beq_eq_false_iff_ne.2 c_next
      have q_next : (r.next != 0) = true := bne_iff_ne.2 c_next
      clear c_next
      go_wp2_with fail
      refine (refPlace_any _ _ _ _).mono ?_
      rintro e w' ⟨rfl, rfl⟩
      rw [placeN_is, e2]
      go_wp2
      all_goals go_ret
      all_goals refine ⟨ret_bool ?_, (New.refl w).alloc _ _⟩
      all_goals (rw [HV2.out, e2]; simp only [nb, nu, nt, y_before.out, y_back.out, y_next.out, decide_true, decide_false, Bool.and_true, Bool.and_false, Bool.false_and, Bool.true_and])
      all_goals have z_before := y_before.out
      all_goals first
        | done
        | rfl
        | ((have q := toList_nil.1 (by assumption : r.text.toList = [])); rw [Bool.eq_iff_iff]; simp only [beq_iff_eq, Bool.and_eq_true, decide_eq_true_eq, Bool.false_eq_true, false_iff]; omega)
        | ((have q : ¬ r.text.size = 0 := fun e => (by assumption : ¬ r.text.toList = []) (toList_nil.2 e)); rw [Bool.eq_iff_iff]; simp only [beq_iff_eq, Bool.and_eq_true, decide_eq_true_eq, Bool.false_eq_true, false_iff]; omega)
        | (rw [Bool.eq_iff_iff]; simp only [beq_iff_eq, Bool.and_eq_true, decide_eq_true_eq, Bool.false_eq_true, false_iff]; omega)

    have y_next := hid c_next
    have p_next : (r.next == 0) = true := beq_iff_eq.2 c_next
    have q_next : (r.next != 0) = false := by rw [c_next]; rfl
    clear c_next
    go_wp2_with fail
    refine (refPlace_any _ _ _ _).mono ?_
    rintro e w' ⟨rfl, rfl⟩
    rw [placeN_is, e2]
    go_wp2
    all_goals go_ret
    all_goals refine ⟨ret_bool ?_, (New.refl w).alloc _ _⟩
    all_goals (rw [HV2.out, e2]; simp only [nb, nu, nt, y_before.out, y_back.out, y_next.out, decide_true, decide_false, Bool.and_true, Bool.and_false, Bool.false_and, Bool.true_and])
    all_goals have z_before := y_before.out
    all_goals first
      | done
      | rfl
      | ((have q := toList_nil.1 (by assumption : r.text.toList = [])); rw [Bool.eq_iff_iff]; simp only [beq_iff_eq, Bool.and_eq_true, decide_eq_true_eq, Bool.false_eq_true, false_iff]; omega)
      | ((have q : ¬ r.text.size = 0 := fun e => (by assumption : ¬ r.text.toList = []) (toList_nil.2 e)); rw [Bool.eq_iff_iff]; simp only [beq_iff_eq, Bool.and_eq_true, decide_eq_true_eq, Bool.false_eq_true, false_iff]; omega)
      | (rw [Bool.eq_iff_iff]; simp only [beq_iff_eq, Bool.and_eq_true, decide_eq_true_eq, Bool.false_eq_true, false_iff]; omega)

  have y_before := hid c_before
  have p_before : decide (0 < r.before.size) = false := decide_eq_false (by omega)
  have s_before : ((r.before.size : Int) == 0) = true := beq_iff_eq.2 (by omega)
  clear c_before
  by_cases c_after : r.after.size = 0
  case neg =>
    have y_after := hid c_after
    have p_after : decide (0 < r.after.size) = true := decide_eq_true (by omega)
    have s_after : ((r.after.size : Int) == 0) = false := beq_eq_false_iff_ne.2 (by omega)
    clear c_after
    by_cases c_back : r.back = 0
    case neg =>
      have y_back := hid c_back
      have p_back : (r.back == 0) = false := beq_eq_false_iff_ne.2 c_back
      have q_back : (r.back != 0) = true := bne_iff_ne.2 c_back
      clear c_back
      go_wp2_with fail
      refine (refPlace_any _ _ _ _).mono ?_
      rintro e w' ⟨rfl, rfl⟩
      rw [placeN_is, e2]
      go_wp2
      all_goals go_ret
      all_goals refine ⟨ret_bool ?_, (New.refl w).alloc _ _⟩
      all_goals (rw [HV2.out, e2]; simp only [nb, nu, nt, y_before.out, y_after.out, y_back.out, decide_true, decide_false, Bool.and_true, Bool.and_false, Bool.false_and, Bool.true_and])
      all_goals have z_before := y_before.out
      all_goals have z_after := y_after.out
      all_goals first
        | done
        | rfl
        | ((have q := toList_nil.1 (by assumption : r.text.toList = [])); rw [Bool.eq_iff_iff]; simp only [beq_iff_eq, Bool.and_eq_true, decide_eq_true_eq, Bool.false_eq_true, false_iff]; omega)
        | ((have q : ¬ r.text.size = 0 := fun e => (by assumption : ¬ r.text.toList = []) (toList_nil.2 e)); rw [Bool.eq_iff_iff]; simp only [beq_iff_eq, Bool.and_eq_true, decide_eq_true_eq, Bool.false_eq_true, false_iff]; omega)
        | (rw [Bool.eq_iff_iff]; simp only [beq_iff_eq, Bool.and_eq_true, decide_eq_true_eq, Bool.false_eq_true, false_iff]; omega)

    have y_back := hid c_back
    have p_back : (r.back == 0) = true := beq_iff_eq.2 c_back
    have q_back : (r.back != 0) = false := by rw [c_back]; rfl
    clear c_back
    by_cases c_next : r.next = 0
    case neg =>
      have y_next := hid c_next
      have p_next : (r.next == 0) = false := beq_eq_false_iff_ne.2 c_next
      have q_next : (r.next != 0) = true := bne_iff_ne.2 c_next
      clear c_next
      go_wp2_with fail
      refine (refPlace_any _ _ _ _).mono ?_
      rintro e w' ⟨rfl, rfl⟩
      rw [placeN_is, e2]
      go_wp2
      all_goals go_ret
      all_goals refine ⟨ret_bool ?_, (New.refl w).alloc _ _⟩
      all_goals (rw [HV2.out, e2]; simp only [nb, nu, nt, y_before.out, y_after.out, y_back.out, y_next.out, decide_true, decide_false, Bool.and_true, Bool.and_false, Bool.false_and, Bool.true_and])
      all_goals have z_before := y_before.out
      all_goals have z_after := y_after.out
      all_goals first
        | done
        | rfl
        | ((have q := toList_nil.1 (by assumption : r.text.toList = [])); rw [Bool.eq_iff_iff]; simp only [beq_iff_eq, Bool.and_eq_true, decide_eq_true_eq, Bool.false_eq_true, false_iff]; omega)
        | ((have q : ¬ r.text.size = 0 := fun e => (by assumption : ¬ r.text.toList = []) (toList_nil.2 e)); rw [Bool.eq_iff_iff]; simp only [beq_iff_eq, Bool.and_eq_true, decide_eq_true_eq, Bool.false_eq_true, false_iff]; omega)
        | (rw [Bool.eq_iff_iff]; simp only [beq_iff_eq, Bool.and_eq_true, decide_eq_true_eq, Bool.false_eq_true, false_iff]; omega)

    have y_next := hid c_next
    have p_next : (r.next == 0) = true := beq_iff_eq.2 c_next
    have q_next : (r.next != 0) = false := by rw [c_next]; rfl
    clear c_next
    go_wp2_with fail
    refine (refPlace_any _ _ _ _).mono ?_
    rintro e w' ⟨rfl, rfl⟩
    rw [placeN_is, e2]
    go_wp2
    all_goals go_ret
    all_goals refine ⟨ret_bool ?_, (New.refl w).alloc _ _⟩
    all_goals (rw [HV2.out, e2]; simp only [nb, nu, nt, y_before.out, y_after.out, y_back.out, y_next.out, decide_true, decide_false, Bool.and_true, Bool.and_false, Bool.false_and, Bool.true_and])
    all_goals have z_before := y_before.out
    all_goals have z_after := y_after.out
    all_goals first
      | done
      | rfl
      | ((have q := toList_nil.1 (by assumption : r.text.toList = [])); rw [Bool.eq_iff_iff]; simp only [beq_iff_eq, Bool.and_eq_true, decide_eq_true_eq, Bool.false_eq_true, false_iff]; omega)
      | ((have q : ¬ r.text.size = 0 := fun e => (by assumption : ¬ r.text.toList = []) (toList_nil.2 e)); rw [Bool.eq_iff_iff]; simp only [beq_iff_eq, Bool.and_eq_true, decide_eq_true_eq, Bool.false_eq_true, false_iff]; omega)
      | (rw [Bool.eq_iff_iff]; simp only [beq_iff_eq, Bool.and_eq_true, decide_eq_true_eq, Bool.false_eq_true, false_iff]; omega)

  have y_after := hid c_after
  have p_after : decide (0 < r.after.size) = false := decide_eq_false (by omega)
  have s_after : ((r.after.size : Int) == 0) = true := beq_iff_eq.2 (by omega)
  clear c_after
  by_cases c_page : r.page = 0
  case neg =>
    have y_page := hid c_page
    have p_page : (r.page == 0) = false := beq_eq_false_iff_ne.2 c_page
    have q_page : (r.page != 0) = true := bne_iff_ne.2 c_page
    clear c_page
    by_cases c_back : r.back = 0
    case neg =>
      have y_back := hid c_back
      have p_back : (r.back == 0) = false := beq_eq_false_iff_ne.2 c_back
      have q_back : (r.back != 0) = true := bne_iff_ne.2 c_back
      clear c_back
      go_wp2_with fail
      refine (refPlace_any _ _ _ _).mono ?_
      rintro e w' ⟨rfl, rfl⟩
      rw [placeN_is, e2]
      go_wp2
      all_goals go_ret
      all_goals refine ⟨ret_bool ?_, (New.refl w).alloc _ _⟩
      all_goals (rw [HV2.out, e2]; simp only [nb, nu, nt, y_before.out, y_after.out, y_page.out, y_back.out, decide_true, decide_false, Bool.and_true, Bool.and_false, Bool.false_and, Bool.true_and])
      all_goals have z_before := y_before.out
      all_goals have z_after := y_after.out
      all_goals first
        | done
        | rfl
        | ((have q := toList_nil.1 (by assumption : r.text.toList = [])); rw [Bool.eq_iff_iff]; simp only [beq_iff_eq, Bool.and_eq_true, decide_eq_true_eq, Bool.false_eq_true, false_iff]; omega)
        | ((have q : ¬ r.text.size = 0 := fun e => (by assumption : ¬ r.text.toList = []) (toList_nil.2 e)); rw [Bool.eq_iff_iff]; simp only [beq_iff_eq, Bool.and_eq_true, decide_eq_true_eq, Bool.false_eq_true, false_iff]; omega)
        | (rw [Bool.eq_iff_iff]; simp only [beq_iff_eq, Bool.and_eq_true, decide_eq_true_eq, Bool.false_eq_true, false_iff]; omega)

    have y_back := hid c_back
    have p_back : (r.back == 0) = true := beq_iff_eq.2 c_back
    have q_back : (r.back != 0) = false := by rw [c_back]; rfl
    clear c_back
    by_cases c_next : r.next = 0
    case neg =>
      have y_next := hid c_next
      have p_next : (r.next == 0) = false := beq_eq_false_iff_ne.2 c_next
      have q_next : (r.next != 0) = true := bne_iff_ne.2 c_next
      clear c_next
      go_wp2_with fail
      refine (refPlace_any _ _ _ _).mono ?_
      rintro e w' ⟨rfl, rfl⟩
      rw [placeN_is, e2]
      go_wp2
      all_goals go_ret
      all_goals refine ⟨ret_bool ?_, (New.refl w).alloc _ _⟩
      all_goals (rw [HV2.out, e2]; simp only [nb, nu, nt, y_before.out, y_after.out, y_page.out, y_back.out, y_next.out, decide_true, decide_false, Bool.and_true, Bool.and_false, Bool.false_and, Bool.true_and])
      all_goals have z_before := y_before.out
      all_goals have z_after := y_after.out
      all_goals first
        | done
        | rfl
        | ((have q := toList_nil.1 (by assumption : r.text.toList = [])); rw [Bool.eq_iff_iff]; simp only [beq_iff_eq, Bool.and_eq_true, decide_eq_true_eq, Bool.false_eq_true, false_iff]; omega)
        | ((have q : ¬ r.text.size = 0 := fun e => (by assumption : ¬ r.text.toList = []) (toList_nil.2 e)); rw [Bool.eq_iff_iff]; simp only [beq_iff_eq, Bool.and_eq_true, decide_eq_true_eq, Bool.false_eq_true, false_iff]; omega)
        | (rw [Bool.eq_iff_iff]; simp only [beq_iff_eq, Bool.and_eq_true, decide_eq_true_eq, Bool.false_eq_true, false_iff]; omega)

    have y_next := hid c_next
    have p_next : (r.next == 0) = true := beq_iff_eq.2 c_next
    have q_next : (r.next != 0) = false := by rw [c_next]; rfl
    clear c_next
    go_wp2_with fail
    refine (refPlace_any _ _ _ _).mono ?_
    rintro e w' ⟨rfl, rfl⟩
    rw [placeN_is, e2]
    go_wp2
    all_goals go_ret
    all_goals refine ⟨ret_bool ?_, (New.refl w).alloc _ _⟩
    all_goals (rw [HV2.out, e2]; simp only [nb, nu, nt, y_before.out, y_after.out, y_page.out, y_back.out, y_next.out, decide_true, decide_false, Bool.and_true, Bool.and_false, Bool.false_and, Bool.true_and])
    all_goals have z_before := y_before.out
    all_goals have z_after := y_after.out
    all_goals first
      | done
      | rfl
      | ((have q := toList_nil.1 (by assumption : r.text.toList = [])); rw [Bool.eq_iff_iff]; simp only [beq_iff_eq, Bool.and_eq_true, decide_eq_true_eq, Bool.false_eq_true, false_iff]; omega)
      | ((have q : ¬ r.text.size = 0 := fun e => (by assumption : ¬ r.text.toList = []) (toList_nil.2 e)); rw [Bool.eq_iff_iff]; simp only [beq_iff_eq, Bool.and_eq_true, decide_eq_true_eq, Bool.false_eq_true, false_iff]; omega)
      | (rw [Bool.eq_iff_iff]; simp only [beq_iff_eq, Bool.and_eq_true, decide_eq_true_eq, Bool.false_eq_true, false_iff]; omega)

  have y_page := hid c_page
  have p_page : (r.page == 0) = true := beq_iff_eq.2 c_page
  have q_page : (r.page != 0) = false := by rw [c_page]; rfl
  clear c_page
  by_cases c_at : r.at_ = 0
  case neg =>
    have y_at := hid c_at
    have p_at : (r.at_ == 0) = false := beq_eq_false_iff_ne.2 c_at
    have q_at : (r.at_ != 0) = true := bne_iff_ne.2 c_at
    clear c_at
    by_cases c_back : r.back = 0
    case neg =>
      have y_back := hid c_back
      have p_back : (r.back == 0) = false := beq_eq_false_iff_ne.2 c_back
      have q_back : (r.back != 0) = true := bne_iff_ne.2 c_back
      clear c_back
      go_wp2_with fail
      refine (refPlace_any _ _ _ _).mono ?_
      rintro e w' ⟨rfl, rfl⟩
      rw [placeN_is, e2]
      go_wp2
      all_goals go_ret
      all_goals refine ⟨ret_bool ?_, (New.refl w).alloc _ _⟩
      all_goals (rw [HV2.out, e2]; simp only [nb, nu, nt, y_before.out, y_after.out, y_page.out, y_at.out, y_back.out, decide_true, decide_false, Bool.and_true, Bool.and_false, Bool.false_and, Bool.true_and])
      all_goals have z_before := y_before.out
      all_goals have z_after := y_after.out
      all_goals first
        | done
        | rfl
        | ((have q := toList_nil.1 (by assumption : r.text.toList = [])); rw [Bool.eq_iff_iff]; simp only [beq_iff_eq, Bool.and_eq_true, decide_eq_true_eq, Bool.false_eq_true, false_iff]; omega)
        | ((have q : ¬ r.text.size = 0 := fun e => (by assumption : ¬ r.text.toList = []) (toList_nil.2 e)); rw [Bool.eq_iff_iff]; simp only [beq_iff_eq, Bool.and_eq_true, decide_eq_true_eq, Bool.false_eq_true, false_iff]; omega)
        | (rw [Bool.eq_iff_iff]; simp only [beq_iff_eq, Bool.and_eq_true, decide_eq_true_eq, Bool.false_eq_true, false_iff]; omega)

    have y_back := hid c_back
    have p_back : (r.back == 0) = true := beq_iff_eq.2 c_back
    have q_back : (r.back != 0) = false := by rw [c_back]; rfl
    clear c_back
    by_cases c_next : r.next = 0
    case neg =>
      have y_next := hid c_next
      have p_next : (r.next == 0) = false := beq_eq_false_iff_ne.2 c_next
      have q_next : (r.next != 0) = true := bne_iff_ne.2 c_next
      clear c_next
      go_wp2_with fail
      refine (refPlace_any _ _ _ _).mono ?_
      rintro e w' ⟨rfl, rfl⟩
      rw [placeN_is, e2]
      go_wp2
      all_goals go_ret
      all_goals refine ⟨ret_bool ?_, (New.refl w).alloc _ _⟩
      all_goals (rw [HV2.out, e2]; simp only [nb, nu, nt, y_before.out, y_after.out, y_page.out, y_at.out, y_back.out, y_next.out, decide_true, decide_false, Bool.and_true, Bool.and_false, Bool.false_and, Bool.true_and])
      all_goals have z_before := y_before.out
      all_goals have z_after := y_after.out
      all_goals first
        | done
        | rfl
        | ((have q := toList_nil.1 (by assumption : r.text.toList = [])); rw [Bool.eq_iff_iff]; simp only [beq_iff_eq, Bool.and_eq_true, decide_eq_true_eq, Bool.false_eq_true, false_iff]; omega)
        | ((have q : ¬ r.text.size = 0 := fun e => (by assumption : ¬ r.text.toList = []) (toList_nil.2 e)); rw [Bool.eq_iff_iff]; simp only [beq_iff_eq, Bool.and_eq_true, decide_eq_true_eq, Bool.false_eq_true, false_iff]; omega)
        | (rw [Bool.eq_iff_iff]; simp only [beq_iff_eq, Bool.and_eq_true, decide_eq_true_eq, Bool.false_eq_true, false_iff]; omega)

    have y_next := hid c_next
    have p_next : (r.next == 0) = true := beq_iff_eq.2 c_next
    have q_next : (r.next != 0) = false := by rw [c_next]; rfl
    clear c_next
    go_wp2_with fail
    refine (refPlace_any _ _ _ _).mono ?_
    rintro e w' ⟨rfl, rfl⟩
    rw [placeN_is, e2]
    go_wp2
    all_goals go_ret
    all_goals refine ⟨ret_bool ?_, (New.refl w).alloc _ _⟩
    all_goals (rw [HV2.out, e2]; simp only [nb, nu, nt, y_before.out, y_after.out, y_page.out, y_at.out, y_back.out, y_next.out, decide_true, decide_false, Bool.and_true, Bool.and_false, Bool.false_and, Bool.true_and])
    all_goals have z_before := y_before.out
    all_goals have z_after := y_after.out
    all_goals first
      | done
      | rfl
      | ((have q := toList_nil.1 (by assumption : r.text.toList = [])); rw [Bool.eq_iff_iff]; simp only [beq_iff_eq, Bool.and_eq_true, decide_eq_true_eq, Bool.false_eq_true, false_iff]; omega)
      | ((have q : ¬ r.text.size = 0 := fun e => (by assumption : ¬ r.text.toList = []) (toList_nil.2 e)); rw [Bool.eq_iff_iff]; simp only [beq_iff_eq, Bool.and_eq_true, decide_eq_true_eq, Bool.false_eq_true, false_iff]; omega)
      | (rw [Bool.eq_iff_iff]; simp only [beq_iff_eq, Bool.and_eq_true, decide_eq_true_eq, Bool.false_eq_true, false_iff]; omega)

  have y_at := hid c_at
  have p_at : (r.at_ == 0) = true := beq_iff_eq.2 c_at
  have q_at : (r.at_ != 0) = false := by rw [c_at]; rfl
  clear c_at
  by_cases c_back : r.back = 0
  case neg =>
    have y_back := hid c_back
    have p_back : (r.back == 0) = false := beq_eq_false_iff_ne.2 c_back
    have q_back : (r.back != 0) = true := bne_iff_ne.2 c_back
    clear c_back
    go_wp2_with fail
    refine (refPlace_any _ _ _ _).mono ?_
    rintro e w' ⟨rfl, rfl⟩
    rw [placeN_is, e2]
    go_wp2
    all_goals go_ret
    all_goals refine ⟨ret_bool ?_, (New.refl w).alloc _ _⟩
    all_goals (rw [HV2.out, e2]; simp only [nb, nu, nt, y_before.out, y_after.out, y_page.out, y_at.out, y_back.out, decide_true, decide_false, Bool.and_true, Bool.and_false, Bool.false_and, Bool.true_and])
    all_goals have z_before := y_before.out
    all_goals have z_after := y_after.out
    all_goals first
      | done
      | rfl
      | ((have q := toList_nil.1 (by assumption : r.text.toList = [])); rw [Bool.eq_iff_iff]; simp only [beq_iff_eq, Bool.and_eq_true, decide_eq_true_eq, Bool.false_eq_true, false_iff]; omega)
      | ((have q : ¬ r.text.size = 0 := fun e => (by assumption : ¬ r.text.toList = []) (toList_nil.2 e)); rw [Bool.eq_iff_iff]; simp only [beq_iff_eq, Bool.and_eq_true, decide_eq_true_eq, Bool.false_eq_true, false_iff]; omega)
      | (rw [Bool.eq_iff_iff]; simp only [beq_iff_eq, Bool.and_eq_true, decide_eq_true_eq, Bool.false_eq_true, false_iff]; omega)

  have y_back := hid c_back
  have p_back : (r.back == 0) = true := beq_iff_eq.2 c_back
  have q_back : (r.back != 0) = false := by rw [c_back]; rfl
  clear c_back
  by_cases c_next : r.next = 0
  case neg =>
    have y_next := hid c_next
    have p_next : (r.next == 0) = false := beq_eq_false_iff_ne.2 c_next
    have q_next : (r.next != 0) = true := bne_iff_ne.2 c_next
    clear c_next
    go_wp2_with fail
    refine (refPlace_any _ _ _ _).mono ?_
    rintro e w' ⟨rfl, rfl⟩
    rw [placeN_is, e2]
    go_wp2
    all_goals go_ret
    all_goals refine ⟨ret_bool ?_, (New.refl w).alloc _ _⟩
    all_goals (rw [HV2.out, e2]; simp only [nb, nu, nt, y_before.out, y_after.out, y_page.out, y_at.out, y_back.out, y_next.out, decide_true, decide_false, Bool.and_true, Bool.and_false, Bool.false_and, Bool.true_and])
    all_goals have z_before := y_before.out
    all_goals have z_after := y_after.out
    all_goals first
      | done
      | rfl
      | ((have q := toList_nil.1 (by assumption : r.text.toList = [])); rw [Bool.eq_iff_iff]; simp only [beq_iff_eq, Bool.and_eq_true, decide_eq_true_eq, Bool.false_eq_true, false_iff]; omega)
      | ((have q : ¬ r.text.size = 0 := fun e => (by assumption : ¬ r.text.toList = []) (toList_nil.2 e)); rw [Bool.eq_iff_iff]; simp only [beq_iff_eq, Bool.and_eq_true, decide_eq_true_eq, Bool.false_eq_true, false_iff]; omega)
      | (rw [Bool.eq_iff_iff]; simp only [beq_iff_eq, Bool.and_eq_true, decide_eq_true_eq, Bool.false_eq_true, false_iff]; omega)

  have y_next := hid c_next
  have p_next : (r.next == 0) = true := beq_iff_eq.2 c_next
  have q_next : (r.next != 0) = false := by rw [c_next]; rfl
  clear c_next
  go_wp2_with fail
  refine (refPlace_any _ _ _ _).mono ?_
  rintro e w' ⟨rfl, rfl⟩
  rw [placeN_is, e2]
  go_wp2
  all_goals go_ret
  all_goals refine ⟨ret_bool ?_, (New.refl w).alloc _ _⟩
  all_goals (rw [HV2.out, e2]; simp only [nb, nu, nt, y_before.out, y_after.out, y_page.out, y_at.out, y_back.out, y_next.out, decide_true, decide_false, Bool.and_true, Bool.and_false, Bool.false_and, Bool.true_and])
  all_goals have z_before := y_before.out
  all_goals have z_after := y_after.out
  all_goals first
    | done
    | rfl
    | ((have q := toList_nil.1 (by assumption : r.text.toList = [])); rw [Bool.eq_iff_iff]; simp only [beq_iff_eq, Bool.and_eq_true, decide_eq_true_eq, Bool.false_eq_true, false_iff]; omega)
    | ((have q : ¬ r.text.size = 0 := fun e => (by assumption : ¬ r.text.toList = []) (toList_nil.2 e)); rw [Bool.eq_iff_iff]; simp only [beq_iff_eq, Bool.and_eq_true, decide_eq_true_eq, Bool.false_eq_true, false_iff]; omega)
    | (rw [Bool.eq_iff_iff]; simp only [beq_iff_eq, Bool.and_eq_true, decide_eq_true_eq, Bool.false_eq_true, false_iff]; omega)

end Go.Proofs.Ytmchbciofdokfaa

namespace Go.Proofs.Ytmchbciofdokfaa
open Go.RowKit
set_option linter.unusedSimpArgs false
set_option linter.unusedVariables false


set_option maxHeartbeats 8000000 in
set_option maxRecDepth 100000 in
theorem refRec_3 (r : Rec) (bv av uv : Value) (w : World) (h : RecAt w r bv av uv) (hk : r.kind = 3) :
    Calls Try.prog 44 #[.agg (recCells r bv av uv)] w fun e w' => e = .returned (.bool (validB r)) ∧ New w w' := by
  obtain ⟨⟨bp, bc, rfl, b1, b2, _⟩, ⟨ap, ac, rfl, a1, a2, _⟩, ⟨up, uc, rfl, l1, l2, _⟩⟩ := h
  unfold maxLen at a2 b2 l2
  have HV : Hid (validB r = (wi 0 r.unit 1000000 && (np r && nf r && nb r && nu r && nt r))) := hid (by simp [validB, hk])
  have HC : (recCells r (Value.slice bp r.before.size bc) (Value.slice ap r.after.size ac) (Value.slice up r.units.length uc)) = #[.int .i64 3, .int .i64 r.unit, .int .i64 r.page, .int .i64 r.at_, Value.slice bp r.before.size bc, Value.slice ap r.after.size ac, .int .i64 r.back, .int .i64 r.next, .string r.text, Value.slice up r.units.length uc] := by unfold recCells; rw [hk]
  rw [HC]
  clear HC hk
  by_cases e1 : wi 0 r.unit 1000000 = true
  case neg =>
    have e1 : wi 0 r.unit 1000000 = false := by simpa using e1
    go_enter Try.func44, Try.ntmps44
    go_wp2_with fail
    refine (refNum_any _ _).mono ?_
    rintro e w' ⟨rfl, rfl⟩
    rw [e1]
    go_wp2
    go_ret
    exact ⟨ret_bool (by rw [HV.out, e1]; rfl), (New.refl w).alloc _ _⟩
  go_enter Try.func44, Try.ntmps44
  go_wp2_with fail
  refine (refNum_any _ _).mono ?_
  rintro e w' ⟨rfl, rfl⟩
  rw [e1]
  have HV2 : Hid (validB r = (np r && nf r && nb r && nu r && nt r)) := hid (by rw [HV.out, e1]; rfl)
  by_cases c_before : r.before.size = 0
  case neg =>
    have y_before := hid c_before
    have p_before : decide (0 < r.before.size) = true := decide_eq_true (by omega)
    have s_before : ((r.before.size : Int) == 0) = false := beq_eq_false_iff_ne.2 (by omega)
    clear c_before
    by_cases c_back : r.back = 0
    case neg =>
      have y_back := hid c_back
      have p_back : (r.back == 0) = false := beq_eq_false_iff_ne.2 c_back
      have q_back : (r.back != 0) = true := bne_iff_ne.2 c_back
      clear c_back
      go_wp2
      all_goals go_ret
      all_goals refine ⟨ret_bool ?_, (New.refl w).alloc _ _⟩
      all_goals (rw [HV2.out]; simp only [np, nf, nb, nu, nt, y_before.out, y_back.out, decide_true, decide_false, Bool.and_true, Bool.and_false, Bool.false_and, Bool.true_and])
    have y_back := hid c_back
    have p_back : (r.back == 0) = true := beq_iff_eq.2 c_back
    have q_back : (r.back != 0) = false := by rw [c_back]; rfl
    clear c_back
    by_cases c_next : r.next = 0
    case neg =>
      have y_next := hid c_next
      have p_next : (r.next == 0) = false := beq_eq_false_iff_ne.2 c_next
      have q_next : (r.next != 0) = true := bne_iff_ne.2 c_next
      clear c_next
      go_wp2
      all_goals go_ret
      all_goals refine ⟨ret_bool ?_, (New.refl w).alloc _ _⟩
      all_goals (rw [HV2.out]; simp only [np, nf, nb, nu, nt, y_before.out, y_back.out, y_next.out, decide_true, decide_false, Bool.and_true, Bool.and_false, Bool.false_and, Bool.true_and])
    have y_next := hid c_next
    have p_next : (r.next == 0) = true := beq_iff_eq.2 c_next
    have q_next : (r.next != 0) = false := by rw [c_next]; rfl
    clear c_next
    go_wp2
    all_goals go_ret
    all_goals refine ⟨ret_bool ?_, (New.refl w).alloc _ _⟩
    all_goals (rw [HV2.out]; simp only [np, nf, nb, nu, nt, y_before.out, y_back.out, y_next.out, decide_true, decide_false, Bool.and_true, Bool.and_false, Bool.false_and, Bool.true_and])
  have y_before := hid c_before
  have p_before : decide (0 < r.before.size) = false := decide_eq_false (by omega)
  have s_before : ((r.before.size : Int) == 0) = true := beq_iff_eq.2 (by omega)
  clear c_before
  by_cases c_after : r.after.size = 0
  case neg =>
    have y_after := hid c_after
    have p_after : decide (0 < r.after.size) = true := decide_eq_true (by omega)
    have s_after : ((r.after.size : Int) == 0) = false := beq_eq_false_iff_ne.2 (by omega)
    clear c_after
    by_cases c_back : r.back = 0
    case neg =>
      have y_back := hid c_back
      have p_back : (r.back == 0) = false := beq_eq_false_iff_ne.2 c_back
      have q_back : (r.back != 0) = true := bne_iff_ne.2 c_back
      clear c_back
      go_wp2
      all_goals go_ret
      all_goals refine ⟨ret_bool ?_, (New.refl w).alloc _ _⟩
      all_goals (rw [HV2.out]; simp only [np, nf, nb, nu, nt, y_before.out, y_after.out, y_back.out, decide_true, decide_false, Bool.and_true, Bool.and_false, Bool.false_and, Bool.true_and])
    have y_back := hid c_back
    have p_back : (r.back == 0) = true := beq_iff_eq.2 c_back
    have q_back : (r.back != 0) = false := by rw [c_back]; rfl
    clear c_back
    by_cases c_next : r.next = 0
    case neg =>
      have y_next := hid c_next
      have p_next : (r.next == 0) = false := beq_eq_false_iff_ne.2 c_next
      have q_next : (r.next != 0) = true := bne_iff_ne.2 c_next
      clear c_next
      go_wp2
      all_goals go_ret
      all_goals refine ⟨ret_bool ?_, (New.refl w).alloc _ _⟩
      all_goals (rw [HV2.out]; simp only [np, nf, nb, nu, nt, y_before.out, y_after.out, y_back.out, y_next.out, decide_true, decide_false, Bool.and_true, Bool.and_false, Bool.false_and, Bool.true_and])
    have y_next := hid c_next
    have p_next : (r.next == 0) = true := beq_iff_eq.2 c_next
    have q_next : (r.next != 0) = false := by rw [c_next]; rfl
    clear c_next
    go_wp2
    all_goals go_ret
    all_goals refine ⟨ret_bool ?_, (New.refl w).alloc _ _⟩
    all_goals (rw [HV2.out]; simp only [np, nf, nb, nu, nt, y_before.out, y_after.out, y_back.out, y_next.out, decide_true, decide_false, Bool.and_true, Bool.and_false, Bool.false_and, Bool.true_and])
  have y_after := hid c_after
  have p_after : decide (0 < r.after.size) = false := decide_eq_false (by omega)
  have s_after : ((r.after.size : Int) == 0) = true := beq_iff_eq.2 (by omega)
  clear c_after
  by_cases c_page : r.page = 0
  case neg =>
    have y_page := hid c_page
    have p_page : (r.page == 0) = false := beq_eq_false_iff_ne.2 c_page
    have q_page : (r.page != 0) = true := bne_iff_ne.2 c_page
    clear c_page
    by_cases c_back : r.back = 0
    case neg =>
      have y_back := hid c_back
      have p_back : (r.back == 0) = false := beq_eq_false_iff_ne.2 c_back
      have q_back : (r.back != 0) = true := bne_iff_ne.2 c_back
      clear c_back
      go_wp2
      all_goals go_ret
      all_goals refine ⟨ret_bool ?_, (New.refl w).alloc _ _⟩
      all_goals (rw [HV2.out]; simp only [np, nf, nb, nu, nt, y_before.out, y_after.out, y_page.out, y_back.out, decide_true, decide_false, Bool.and_true, Bool.and_false, Bool.false_and, Bool.true_and])
    have y_back := hid c_back
    have p_back : (r.back == 0) = true := beq_iff_eq.2 c_back
    have q_back : (r.back != 0) = false := by rw [c_back]; rfl
    clear c_back
    by_cases c_next : r.next = 0
    case neg =>
      have y_next := hid c_next
      have p_next : (r.next == 0) = false := beq_eq_false_iff_ne.2 c_next
      have q_next : (r.next != 0) = true := bne_iff_ne.2 c_next
      clear c_next
      go_wp2
      all_goals go_ret
      all_goals refine ⟨ret_bool ?_, (New.refl w).alloc _ _⟩
      all_goals (rw [HV2.out]; simp only [np, nf, nb, nu, nt, y_before.out, y_after.out, y_page.out, y_back.out, y_next.out, decide_true, decide_false, Bool.and_true, Bool.and_false, Bool.false_and, Bool.true_and])
    have y_next := hid c_next
    have p_next : (r.next == 0) = true := beq_iff_eq.2 c_next
    have q_next : (r.next != 0) = false := by rw [c_next]; rfl
    clear c_next
    go_wp2
    all_goals go_ret
    all_goals refine ⟨ret_bool ?_, (New.refl w).alloc _ _⟩
    all_goals (rw [HV2.out]; simp only [np, nf, nb, nu, nt, y_before.out, y_after.out, y_page.out, y_back.out, y_next.out, decide_true, decide_false, Bool.and_true, Bool.and_false, Bool.false_and, Bool.true_and])
  have y_page := hid c_page
  have p_page : (r.page == 0) = true := beq_iff_eq.2 c_page
  have q_page : (r.page != 0) = false := by rw [c_page]; rfl
  clear c_page
  by_cases c_at : r.at_ = 0
  case neg =>
    have y_at := hid c_at
    have p_at : (r.at_ == 0) = false := beq_eq_false_iff_ne.2 c_at
    have q_at : (r.at_ != 0) = true := bne_iff_ne.2 c_at
    clear c_at
    by_cases c_back : r.back = 0
    case neg =>
      have y_back := hid c_back
      have p_back : (r.back == 0) = false := beq_eq_false_iff_ne.2 c_back
      have q_back : (r.back != 0) = true := bne_iff_ne.2 c_back
      clear c_back
      go_wp2
      all_goals go_ret
      all_goals refine ⟨ret_bool ?_, (New.refl w).alloc _ _⟩
      all_goals (rw [HV2.out]; simp only [np, nf, nb, nu, nt, y_before.out, y_after.out, y_page.out, y_at.out, y_back.out, decide_true, decide_false, Bool.and_true, Bool.and_false, Bool.false_and, Bool.true_and])
    have y_back := hid c_back
    have p_back : (r.back == 0) = true := beq_iff_eq.2 c_back
    have q_back : (r.back != 0) = false := by rw [c_back]; rfl
    clear c_back
    by_cases c_next : r.next = 0
    case neg =>
      have y_next := hid c_next
      have p_next : (r.next == 0) = false := beq_eq_false_iff_ne.2 c_next
      have q_next : (r.next != 0) = true := bne_iff_ne.2 c_next
      clear c_next
      go_wp2
      all_goals go_ret
      all_goals refine ⟨ret_bool ?_, (New.refl w).alloc _ _⟩
      all_goals (rw [HV2.out]; simp only [np, nf, nb, nu, nt, y_before.out, y_after.out, y_page.out, y_at.out, y_back.out, y_next.out, decide_true, decide_false, Bool.and_true, Bool.and_false, Bool.false_and, Bool.true_and])
    have y_next := hid c_next
    have p_next : (r.next == 0) = true := beq_iff_eq.2 c_next
    have q_next : (r.next != 0) = false := by rw [c_next]; rfl
    clear c_next
    go_wp2
    all_goals go_ret
    all_goals refine ⟨ret_bool ?_, (New.refl w).alloc _ _⟩
    all_goals (rw [HV2.out]; simp only [np, nf, nb, nu, nt, y_before.out, y_after.out, y_page.out, y_at.out, y_back.out, y_next.out, decide_true, decide_false, Bool.and_true, Bool.and_false, Bool.false_and, Bool.true_and])
  have y_at := hid c_at
  have p_at : (r.at_ == 0) = true := beq_iff_eq.2 c_at
  have q_at : (r.at_ != 0) = false := by rw [c_at]; rfl
  clear c_at
  by_cases c_back : r.back = 0
  case neg =>
    have y_back := hid c_back
    have p_back : (r.back == 0) = false := beq_eq_false_iff_ne.2 c_back
    have q_back : (r.back != 0) = true := bne_iff_ne.2 c_back
    clear c_back
    go_wp2
    all_goals go_ret
    all_goals refine ⟨ret_bool ?_, (New.refl w).alloc _ _⟩
    all_goals (rw [HV2.out]; simp only [np, nf, nb, nu, nt, y_before.out, y_after.out, y_page.out, y_at.out, y_back.out, decide_true, decide_false, Bool.and_true, Bool.and_false, Bool.false_and, Bool.true_and])
  have y_back := hid c_back
  have p_back : (r.back == 0) = true := beq_iff_eq.2 c_back
  have q_back : (r.back != 0) = false := by rw [c_back]; rfl
  clear c_back
  by_cases c_next : r.next = 0
  case neg =>
    have y_next := hid c_next
    have p_next : (r.next == 0) = false := beq_eq_false_iff_ne.2 c_next
    have q_next : (r.next != 0) = true := bne_iff_ne.2 c_next
    clear c_next
    go_wp2
    all_goals go_ret
    all_goals refine ⟨ret_bool ?_, (New.refl w).alloc _ _⟩
    all_goals (rw [HV2.out]; simp only [np, nf, nb, nu, nt, y_before.out, y_after.out, y_page.out, y_at.out, y_back.out, y_next.out, decide_true, decide_false, Bool.and_true, Bool.and_false, Bool.false_and, Bool.true_and])
  have y_next := hid c_next
  have p_next : (r.next == 0) = true := beq_iff_eq.2 c_next
  have q_next : (r.next != 0) = false := by rw [c_next]; rfl
  clear c_next
  by_cases c_text : r.text.size = 0
  case neg =>
    have y_text := hid c_text
    have p_text : ¬ r.text.toList = [] := fun e => c_text (toList_nil.1 e)
    clear c_text
    go_wp2
    all_goals go_ret
    all_goals refine ⟨ret_bool ?_, (New.refl w).alloc _ _⟩
    all_goals (rw [HV2.out]; simp only [np, nf, nb, nu, nt, y_before.out, y_after.out, y_page.out, y_at.out, y_back.out, y_next.out, y_text.out, decide_true, decide_false, Bool.and_true, Bool.and_false, Bool.false_and, Bool.true_and])
  have y_text := hid c_text
  have p_text : r.text.toList = [] := toList_nil.2 c_text
  clear c_text
  by_cases c_units : r.units.length = 0
  case neg =>
    have y_units := hid c_units
    have p_units : ((r.units.length : Int) == 0) = false := beq_eq_false_iff_ne.2 (by omega)
    clear c_units
    go_wp2
    all_goals go_ret
    all_goals refine ⟨ret_bool ?_, (New.refl w).alloc _ _⟩
    all_goals (rw [HV2.out]; simp only [np, nf, nb, nu, nt, y_before.out, y_after.out, y_page.out, y_at.out, y_back.out, y_next.out, y_text.out, y_units.out, decide_true, decide_false, Bool.and_true, Bool.and_false, Bool.false_and, Bool.true_and])
  have y_units := hid c_units
  have p_units : ((r.units.length : Int) == 0) = true := beq_iff_eq.2 (by omega)
  clear c_units
  go_wp2
  all_goals go_ret
  all_goals refine ⟨ret_bool ?_, (New.refl w).alloc _ _⟩
  all_goals (rw [HV2.out]; simp only [np, nf, nb, nu, nt, y_before.out, y_after.out, y_page.out, y_at.out, y_back.out, y_next.out, y_text.out, y_units.out, decide_true, decide_false, Bool.and_true, Bool.and_false, Bool.false_and, Bool.true_and])
end Go.Proofs.Ytmchbciofdokfaa

namespace Go.Proofs.Ytmchbciofdokfaa
open Go.RowKit
set_option linter.unusedSimpArgs false
set_option linter.unusedVariables false


set_option maxHeartbeats 8000000 in
set_option maxRecDepth 100000 in
theorem refRec_4 (r : Rec) (bv av uv : Value) (w : World) (h : RecAt w r bv av uv) (hk : r.kind = 4) :
    Calls Try.prog 44 #[.agg (recCells r bv av uv)] w fun e w' => e = .returned (.bool (validB r)) ∧ New w w' := by
  obtain ⟨⟨bp, bc, rfl, b1, b2, _⟩, ⟨ap, ac, rfl, a1, a2, _⟩, ⟨up, uc, rfl, l1, l2, _⟩⟩ := h
  unfold maxLen at a2 b2 l2
  have HV : Hid (validB r = (wi 0 r.unit 1000000 && (np r && nf r && nb r && nu r && nt r))) := hid (by simp [validB, hk])
  have HC : (recCells r (Value.slice bp r.before.size bc) (Value.slice ap r.after.size ac) (Value.slice up r.units.length uc)) = #[.int .i64 4, .int .i64 r.unit, .int .i64 r.page, .int .i64 r.at_, Value.slice bp r.before.size bc, Value.slice ap r.after.size ac, .int .i64 r.back, .int .i64 r.next, .string r.text, Value.slice up r.units.length uc] := by unfold recCells; rw [hk]
  rw [HC]
  clear HC hk
  by_cases e1 : wi 0 r.unit 1000000 = true
  case neg =>
    have e1 : wi 0 r.unit 1000000 = false := by simpa using e1
    go_enter Try.func44, Try.ntmps44
    go_wp2_with fail
    refine (refNum_any _ _).mono ?_
    rintro e w' ⟨rfl, rfl⟩
    rw [e1]
    go_wp2
    go_ret
    exact ⟨ret_bool (by rw [HV.out, e1]; rfl), (New.refl w).alloc _ _⟩
  go_enter Try.func44, Try.ntmps44
  go_wp2_with fail
  refine (refNum_any _ _).mono ?_
  rintro e w' ⟨rfl, rfl⟩
  rw [e1]
  have HV2 : Hid (validB r = (np r && nf r && nb r && nu r && nt r)) := hid (by rw [HV.out, e1]; rfl)
  by_cases c_before : r.before.size = 0
  case neg =>
    have y_before := hid c_before
    have p_before : decide (0 < r.before.size) = true := decide_eq_true (by omega)
    have s_before : ((r.before.size : Int) == 0) = false := beq_eq_false_iff_ne.2 (by omega)
    clear c_before
    by_cases c_back : r.back = 0
    case neg =>
      have y_back := hid c_back
      have p_back : (r.back == 0) = false := beq_eq_false_iff_ne.2 c_back
      have q_back : (r.back != 0) = true := bne_iff_ne.2 c_back
      clear c_back
      go_wp2
      all_goals go_ret
      all_goals refine ⟨ret_bool ?_, (New.refl w).alloc _ _⟩
      all_goals (rw [HV2.out]; simp only [np, nf, nb, nu, nt, y_before.out, y_back.out, decide_true, decide_false, Bool.and_true, Bool.and_false, Bool.false_and, Bool.true_and])
    have y_back := hid c_back
    have p_back : (r.back == 0) = true := beq_iff_eq.2 c_back
    have q_back : (r.back != 0) = false := by rw [c_back]; rfl
    clear c_back
    by_cases c_next : r.next = 0
    case neg =>
      have y_next := hid c_next
      have p_next : (r.next == 0) = false := beq_eq_false_iff_ne.2 c_next
      have q_next : (r.next != 0) = true := bne_iff_ne.2 c_next
      clear c_next
      go_wp2
      all_goals go_ret
      all_goals refine ⟨ret_bool ?_, (New.refl w).alloc _ _⟩
      all_goals (rw [HV2.out]; simp only [np, nf, nb, nu, nt, y_before.out, y_back.out, y_next.out, decide_true, decide_false, Bool.and_true, Bool.and_false, Bool.false_and, Bool.true_and])
    have y_next := hid c_next
    have p_next : (r.next == 0) = true := beq_iff_eq.2 c_next
    have q_next : (r.next != 0) = false := by rw [c_next]; rfl
    clear c_next
    go_wp2
    all_goals go_ret
    all_goals refine ⟨ret_bool ?_, (New.refl w).alloc _ _⟩
    all_goals (rw [HV2.out]; simp only [np, nf, nb, nu, nt, y_before.out, y_back.out, y_next.out, decide_true, decide_false, Bool.and_true, Bool.and_false, Bool.false_and, Bool.true_and])
  have y_before := hid c_before
  have p_before : decide (0 < r.before.size) = false := decide_eq_false (by omega)
  have s_before : ((r.before.size : Int) == 0) = true := beq_iff_eq.2 (by omega)
  clear c_before
  by_cases c_after : r.after.size = 0
  case neg =>
    have y_after := hid c_after
    have p_after : decide (0 < r.after.size) = true := decide_eq_true (by omega)
    have s_after : ((r.after.size : Int) == 0) = false := beq_eq_false_iff_ne.2 (by omega)
    clear c_after
    by_cases c_back : r.back = 0
    case neg =>
      have y_back := hid c_back
      have p_back : (r.back == 0) = false := beq_eq_false_iff_ne.2 c_back
      have q_back : (r.back != 0) = true := bne_iff_ne.2 c_back
      clear c_back
      go_wp2
      all_goals go_ret
      all_goals refine ⟨ret_bool ?_, (New.refl w).alloc _ _⟩
      all_goals (rw [HV2.out]; simp only [np, nf, nb, nu, nt, y_before.out, y_after.out, y_back.out, decide_true, decide_false, Bool.and_true, Bool.and_false, Bool.false_and, Bool.true_and])
    have y_back := hid c_back
    have p_back : (r.back == 0) = true := beq_iff_eq.2 c_back
    have q_back : (r.back != 0) = false := by rw [c_back]; rfl
    clear c_back
    by_cases c_next : r.next = 0
    case neg =>
      have y_next := hid c_next
      have p_next : (r.next == 0) = false := beq_eq_false_iff_ne.2 c_next
      have q_next : (r.next != 0) = true := bne_iff_ne.2 c_next
      clear c_next
      go_wp2
      all_goals go_ret
      all_goals refine ⟨ret_bool ?_, (New.refl w).alloc _ _⟩
      all_goals (rw [HV2.out]; simp only [np, nf, nb, nu, nt, y_before.out, y_after.out, y_back.out, y_next.out, decide_true, decide_false, Bool.and_true, Bool.and_false, Bool.false_and, Bool.true_and])
    have y_next := hid c_next
    have p_next : (r.next == 0) = true := beq_iff_eq.2 c_next
    have q_next : (r.next != 0) = false := by rw [c_next]; rfl
    clear c_next
    go_wp2
    all_goals go_ret
    all_goals refine ⟨ret_bool ?_, (New.refl w).alloc _ _⟩
    all_goals (rw [HV2.out]; simp only [np, nf, nb, nu, nt, y_before.out, y_after.out, y_back.out, y_next.out, decide_true, decide_false, Bool.and_true, Bool.and_false, Bool.false_and, Bool.true_and])
  have y_after := hid c_after
  have p_after : decide (0 < r.after.size) = false := decide_eq_false (by omega)
  have s_after : ((r.after.size : Int) == 0) = true := beq_iff_eq.2 (by omega)
  clear c_after
  by_cases c_page : r.page = 0
  case neg =>
    have y_page := hid c_page
    have p_page : (r.page == 0) = false := beq_eq_false_iff_ne.2 c_page
    have q_page : (r.page != 0) = true := bne_iff_ne.2 c_page
    clear c_page
    by_cases c_back : r.back = 0
    case neg =>
      have y_back := hid c_back
      have p_back : (r.back == 0) = false := beq_eq_false_iff_ne.2 c_back
      have q_back : (r.back != 0) = true := bne_iff_ne.2 c_back
      clear c_back
      go_wp2
      all_goals go_ret
      all_goals refine ⟨ret_bool ?_, (New.refl w).alloc _ _⟩
      all_goals (rw [HV2.out]; simp only [np, nf, nb, nu, nt, y_before.out, y_after.out, y_page.out, y_back.out, decide_true, decide_false, Bool.and_true, Bool.and_false, Bool.false_and, Bool.true_and])
    have y_back := hid c_back
    have p_back : (r.back == 0) = true := beq_iff_eq.2 c_back
    have q_back : (r.back != 0) = false := by rw [c_back]; rfl
    clear c_back
    by_cases c_next : r.next = 0
    case neg =>
      have y_next := hid c_next
      have p_next : (r.next == 0) = false := beq_eq_false_iff_ne.2 c_next
      have q_next : (r.next != 0) = true := bne_iff_ne.2 c_next
      clear c_next
      go_wp2
      all_goals go_ret
      all_goals refine ⟨ret_bool ?_, (New.refl w).alloc _ _⟩
      all_goals (rw [HV2.out]; simp only [np, nf, nb, nu, nt, y_before.out, y_after.out, y_page.out, y_back.out, y_next.out, decide_true, decide_false, Bool.and_true, Bool.and_false, Bool.false_and, Bool.true_and])
    have y_next := hid c_next
    have p_next : (r.next == 0) = true := beq_iff_eq.2 c_next
    have q_next : (r.next != 0) = false := by rw [c_next]; rfl
    clear c_next
    go_wp2
    all_goals go_ret
    all_goals refine ⟨ret_bool ?_, (New.refl w).alloc _ _⟩
    all_goals (rw [HV2.out]; simp only [np, nf, nb, nu, nt, y_before.out, y_after.out, y_page.out, y_back.out, y_next.out, decide_true, decide_false, Bool.and_true, Bool.and_false, Bool.false_and, Bool.true_and])
  have y_page := hid c_page
  have p_page : (r.page == 0) = true := beq_iff_eq.2 c_page
  have q_page : (r.page != 0) = false := by rw [c_page]; rfl
  clear c_page
  by_cases c_at : r.at_ = 0
  case neg =>
    have y_at := hid c_at
    have p_at : (r.at_ == 0) = false := beq_eq_false_iff_ne.2 c_at
    have q_at : (r.at_ != 0) = true := bne_iff_ne.2 c_at
    clear c_at
    by_cases c_back : r.back = 0
    case neg =>
      have y_back := hid c_back
      have p_back : (r.back == 0) = false := beq_eq_false_iff_ne.2 c_back
      have q_back : (r.back != 0) = true := bne_iff_ne.2 c_back
      clear c_back
      go_wp2
      all_goals go_ret
      all_goals refine ⟨ret_bool ?_, (New.refl w).alloc _ _⟩
      all_goals (rw [HV2.out]; simp only [np, nf, nb, nu, nt, y_before.out, y_after.out, y_page.out, y_at.out, y_back.out, decide_true, decide_false, Bool.and_true, Bool.and_false, Bool.false_and, Bool.true_and])
    have y_back := hid c_back
    have p_back : (r.back == 0) = true := beq_iff_eq.2 c_back
    have q_back : (r.back != 0) = false := by rw [c_back]; rfl
    clear c_back
    by_cases c_next : r.next = 0
    case neg =>
      have y_next := hid c_next
      have p_next : (r.next == 0) = false := beq_eq_false_iff_ne.2 c_next
      have q_next : (r.next != 0) = true := bne_iff_ne.2 c_next
      clear c_next
      go_wp2
      all_goals go_ret
      all_goals refine ⟨ret_bool ?_, (New.refl w).alloc _ _⟩
      all_goals (rw [HV2.out]; simp only [np, nf, nb, nu, nt, y_before.out, y_after.out, y_page.out, y_at.out, y_back.out, y_next.out, decide_true, decide_false, Bool.and_true, Bool.and_false, Bool.false_and, Bool.true_and])
    have y_next := hid c_next
    have p_next : (r.next == 0) = true := beq_iff_eq.2 c_next
    have q_next : (r.next != 0) = false := by rw [c_next]; rfl
    clear c_next
    go_wp2
    all_goals go_ret
    all_goals refine ⟨ret_bool ?_, (New.refl w).alloc _ _⟩
    all_goals (rw [HV2.out]; simp only [np, nf, nb, nu, nt, y_before.out, y_after.out, y_page.out, y_at.out, y_back.out, y_next.out, decide_true, decide_false, Bool.and_true, Bool.and_false, Bool.false_and, Bool.true_and])
  have y_at := hid c_at
  have p_at : (r.at_ == 0) = true := beq_iff_eq.2 c_at
  have q_at : (r.at_ != 0) = false := by rw [c_at]; rfl
  clear c_at
  by_cases c_back : r.back = 0
  case neg =>
    have y_back := hid c_back
    have p_back : (r.back == 0) = false := beq_eq_false_iff_ne.2 c_back
    have q_back : (r.back != 0) = true := bne_iff_ne.2 c_back
    clear c_back
    go_wp2
    all_goals go_ret
    all_goals refine ⟨ret_bool ?_, (New.refl w).alloc _ _⟩
    all_goals (rw [HV2.out]; simp only [np, nf, nb, nu, nt, y_before.out, y_after.out, y_page.out, y_at.out, y_back.out, decide_true, decide_false, Bool.and_true, Bool.and_false, Bool.false_and, Bool.true_and])
  have y_back := hid c_back
  have p_back : (r.back == 0) = true := beq_iff_eq.2 c_back
  have q_back : (r.back != 0) = false := by rw [c_back]; rfl
  clear c_back
  by_cases c_next : r.next = 0
  case neg =>
    have y_next := hid c_next
    have p_next : (r.next == 0) = false := beq_eq_false_iff_ne.2 c_next
    have q_next : (r.next != 0) = true := bne_iff_ne.2 c_next
    clear c_next
    go_wp2
    all_goals go_ret
    all_goals refine ⟨ret_bool ?_, (New.refl w).alloc _ _⟩
    all_goals (rw [HV2.out]; simp only [np, nf, nb, nu, nt, y_before.out, y_after.out, y_page.out, y_at.out, y_back.out, y_next.out, decide_true, decide_false, Bool.and_true, Bool.and_false, Bool.false_and, Bool.true_and])
  have y_next := hid c_next
  have p_next : (r.next == 0) = true := beq_iff_eq.2 c_next
  have q_next : (r.next != 0) = false := by rw [c_next]; rfl
  clear c_next
  by_cases c_text : r.text.size = 0
  case neg =>
    have y_text := hid c_text
    have p_text : ¬ r.text.toList = [] := fun e => c_text (toList_nil.1 e)
    clear c_text
    go_wp2
    all_goals go_ret
    all_goals refine ⟨ret_bool ?_, (New.refl w).alloc _ _⟩
    all_goals (rw [HV2.out]; simp only [np, nf, nb, nu, nt, y_before.out, y_after.out, y_page.out, y_at.out, y_back.out, y_next.out, y_text.out, decide_true, decide_false, Bool.and_true, Bool.and_false, Bool.false_and, Bool.true_and])
  have y_text := hid c_text
  have p_text : r.text.toList = [] := toList_nil.2 c_text
  clear c_text
  by_cases c_units : r.units.length = 0
  case neg =>
    have y_units := hid c_units
    have p_units : ((r.units.length : Int) == 0) = false := beq_eq_false_iff_ne.2 (by omega)
    clear c_units
    go_wp2
    all_goals go_ret
    all_goals refine ⟨ret_bool ?_, (New.refl w).alloc _ _⟩
    all_goals (rw [HV2.out]; simp only [np, nf, nb, nu, nt, y_before.out, y_after.out, y_page.out, y_at.out, y_back.out, y_next.out, y_text.out, y_units.out, decide_true, decide_false, Bool.and_true, Bool.and_false, Bool.false_and, Bool.true_and])
  have y_units := hid c_units
  have p_units : ((r.units.length : Int) == 0) = true := beq_iff_eq.2 (by omega)
  clear c_units
  go_wp2
  all_goals go_ret
  all_goals refine ⟨ret_bool ?_, (New.refl w).alloc _ _⟩
  all_goals (rw [HV2.out]; simp only [np, nf, nb, nu, nt, y_before.out, y_after.out, y_page.out, y_at.out, y_back.out, y_next.out, y_text.out, y_units.out, decide_true, decide_false, Bool.and_true, Bool.and_false, Bool.false_and, Bool.true_and])
end Go.Proofs.Ytmchbciofdokfaa

namespace Go.Proofs.Ytmchbciofdokfaa
open Go.RowKit
set_option linter.unusedSimpArgs false
set_option linter.unusedVariables false


set_option maxHeartbeats 8000000 in
set_option maxRecDepth 100000 in
theorem refRec_5 (r : Rec) (bv av uv : Value) (w : World) (h : RecAt w r bv av uv) (hk : r.kind = 5) :
    Calls Try.prog 44 #[.agg (recCells r bv av uv)] w fun e w' => e = .returned (.bool (validB r)) ∧ New w w' := by
  obtain ⟨⟨bp, bc, rfl, b1, b2, _⟩, ⟨ap, ac, rfl, a1, a2, _⟩, ⟨up, uc, rfl, l1, l2, _⟩⟩ := h
  unfold maxLen at a2 b2 l2
  have HV : Hid (validB r = (wi 0 r.unit 1000000 && (np r && nf r && nb r && nu r && wi 1 r.text.size 30))) := hid (by simp [validB, hk])
  have HC : (recCells r (Value.slice bp r.before.size bc) (Value.slice ap r.after.size ac) (Value.slice up r.units.length uc)) = #[.int .i64 5, .int .i64 r.unit, .int .i64 r.page, .int .i64 r.at_, Value.slice bp r.before.size bc, Value.slice ap r.after.size ac, .int .i64 r.back, .int .i64 r.next, .string r.text, Value.slice up r.units.length uc] := by unfold recCells; rw [hk]
  rw [HC]
  clear HC hk
  by_cases e1 : wi 0 r.unit 1000000 = true
  case neg =>
    have e1 : wi 0 r.unit 1000000 = false := by simpa using e1
    go_enter Try.func44, Try.ntmps44
    go_wp2_with fail
    refine (refNum_any _ _).mono ?_
    rintro e w' ⟨rfl, rfl⟩
    rw [e1]
    go_wp2
    go_ret
    exact ⟨ret_bool (by rw [HV.out, e1]; rfl), (New.refl w).alloc _ _⟩
  go_enter Try.func44, Try.ntmps44
  go_wp2_with fail
  refine (refNum_any _ _).mono ?_
  rintro e w' ⟨rfl, rfl⟩
  rw [e1]
  have HV2 : Hid (validB r = (np r && nf r && nb r && nu r && wi 1 r.text.size 30)) := hid (by rw [HV.out, e1]; rfl)
  by_cases c_before : r.before.size = 0
  case neg =>
    have y_before := hid c_before
    have p_before : decide (0 < r.before.size) = true := decide_eq_true (by omega)
    have s_before : ((r.before.size : Int) == 0) = false := beq_eq_false_iff_ne.2 (by omega)
    clear c_before
    by_cases c_back : r.back = 0
    case neg =>
      have y_back := hid c_back
      have p_back : (r.back == 0) = false := beq_eq_false_iff_ne.2 c_back
      have q_back : (r.back != 0) = true := bne_iff_ne.2 c_back
      clear c_back
      go_wp2
      all_goals go_ret
      all_goals refine ⟨ret_bool ?_, (New.refl w).alloc _ _⟩
      all_goals (rw [HV2.out]; (try simp only [np, nf, nb, nu, nt, y_before.out, y_back.out, decide_true, decide_false, Bool.and_true, Bool.and_false, Bool.false_and, Bool.true_and]))
      all_goals first
        | done
        | rfl
        | (rw [eq_comm, Bool.eq_false_iff]; simp only [ne_eq, wi_iff, decide_eq_true_eq]; omega)
        | (rw [eq_comm]; simp only [wi_iff, decide_eq_true_eq]; omega)
        | (rw [Bool.eq_iff_iff]; simp only [wi_iff, decide_eq_true_eq]; omega)
    have y_back := hid c_back
    have p_back : (r.back == 0) = true := beq_iff_eq.2 c_back
    have q_back : (r.back != 0) = false := by rw [c_back]; rfl
    clear c_back
    by_cases c_next : r.next = 0
    case neg =>
      have y_next := hid c_next
      have p_next : (r.next == 0) = false := beq_eq_false_iff_ne.2 c_next
      have q_next : (r.next != 0) = true := bne_iff_ne.2 c_next
      clear c_next
      go_wp2
      all_goals go_ret
      all_goals refine ⟨ret_bool ?_, (New.refl w).alloc _ _⟩
      all_goals (rw [HV2.out]; (try simp only [np, nf, nb, nu, nt, y_before.out, y_back.out, y_next.out, decide_true, decide_false, Bool.and_true, Bool.and_false, Bool.false_and, Bool.true_and]))
      all_goals first
        | done
        | rfl
        | (rw [eq_comm, Bool.eq_false_iff]; simp only [ne_eq, wi_iff, decide_eq_true_eq]; omega)
        | (rw [eq_comm]; simp only [wi_iff, decide_eq_true_eq]; omega)
        | (rw [Bool.eq_iff_iff]; simp only [wi_iff, decide_eq_true_eq]; omega)
    have y_next := hid c_next
    have p_next : (r.next == 0) = true := beq_iff_eq.2 c_next
    have q_next : (r.next != 0) = false := by rw [c_next]; rfl
    clear c_next
    go_wp2
    all_goals go_ret
    all_goals refine ⟨ret_bool ?_, (New.refl w).alloc _ _⟩
    all_goals (rw [HV2.out]; (try simp only [np, nf, nb, nu, nt, y_before.out, y_back.out, y_next.out, decide_true, decide_false, Bool.and_true, Bool.and_false, Bool.false_and, Bool.true_and]))
    all_goals first
      | done
      | rfl
      | (rw [eq_comm, Bool.eq_false_iff]; simp only [ne_eq, wi_iff, decide_eq_true_eq]; omega)
      | (rw [eq_comm]; simp only [wi_iff, decide_eq_true_eq]; omega)
      | (rw [Bool.eq_iff_iff]; simp only [wi_iff, decide_eq_true_eq]; omega)
  have y_before := hid c_before
  have p_before : decide (0 < r.before.size) = false := decide_eq_false (by omega)
  have s_before : ((r.before.size : Int) == 0) = true := beq_iff_eq.2 (by omega)
  clear c_before
  by_cases c_after : r.after.size = 0
  case neg =>
    have y_after := hid c_after
    have p_after : decide (0 < r.after.size) = true := decide_eq_true (by omega)
    have s_after : ((r.after.size : Int) == 0) = false := beq_eq_false_iff_ne.2 (by omega)
    clear c_after
    by_cases c_back : r.back = 0
    case neg =>
      have y_back := hid c_back
      have p_back : (r.back == 0) = false := beq_eq_false_iff_ne.2 c_back
      have q_back : (r.back != 0) = true := bne_iff_ne.2 c_back
      clear c_back
      go_wp2
      all_goals go_ret
      all_goals refine ⟨ret_bool ?_, (New.refl w).alloc _ _⟩
      all_goals (rw [HV2.out]; (try simp only [np, nf, nb, nu, nt, y_before.out, y_after.out, y_back.out, decide_true, decide_false, Bool.and_true, Bool.and_false, Bool.false_and, Bool.true_and]))
      all_goals first
        | done
        | rfl
        | (rw [eq_comm, Bool.eq_false_iff]; simp only [ne_eq, wi_iff, decide_eq_true_eq]; omega)
        | (rw [eq_comm]; simp only [wi_iff, decide_eq_true_eq]; omega)
        | (rw [Bool.eq_iff_iff]; simp only [wi_iff, decide_eq_true_eq]; omega)
    have y_back := hid c_back
    have p_back : (r.back == 0) = true := beq_iff_eq.2 c_back
    have q_back : (r.back != 0) = false := by rw [c_back]; rfl
    clear c_back
    by_cases c_next : r.next = 0
    case neg =>
      have y_next := hid c_next
      have p_next : (r.next == 0) = false := beq_eq_false_iff_ne.2 c_next
      have q_next : (r.next != 0) = true := bne_iff_ne.2 c_next
      clear c_next
      go_wp2
      all_goals go_ret
      all_goals refine ⟨ret_bool ?_, (New.refl w).alloc _ _⟩
      all_goals (rw [HV2.out]; (try simp only [np, nf, nb, nu, nt, y_before.out, y_after.out, y_back.out, y_next.out, decide_true, decide_false, Bool.and_true, Bool.and_false, Bool.false_and, Bool.true_and]))
      all_goals first
        | done
        | rfl
        | (rw [eq_comm, Bool.eq_false_iff]; simp only [ne_eq, wi_iff, decide_eq_true_eq]; omega)
        | (rw [eq_comm]; simp only [wi_iff, decide_eq_true_eq]; omega)
        | (rw [Bool.eq_iff_iff]; simp only [wi_iff, decide_eq_true_eq]; omega)
    have y_next := hid c_next
    have p_next : (r.next == 0) = true := beq_iff_eq.2 c_next
    have q_next : (r.next != 0) = false := by rw [c_next]; rfl
    clear c_next
    go_wp2
    all_goals go_ret
    all_goals refine ⟨ret_bool ?_, (New.refl w).alloc _ _⟩
    all_goals (rw [HV2.out]; (try simp only [np, nf, nb, nu, nt, y_before.out, y_after.out, y_back.out, y_next.out, decide_true, decide_false, Bool.and_true, Bool.and_false, Bool.false_and, Bool.true_and]))
    all_goals first
      | done
      | rfl
      | (rw [eq_comm, Bool.eq_false_iff]; simp only [ne_eq, wi_iff, decide_eq_true_eq]; omega)
      | (rw [eq_comm]; simp only [wi_iff, decide_eq_true_eq]; omega)
      | (rw [Bool.eq_iff_iff]; simp only [wi_iff, decide_eq_true_eq]; omega)
  have y_after := hid c_after
  have p_after : decide (0 < r.after.size) = false := decide_eq_false (by omega)
  have s_after : ((r.after.size : Int) == 0) = true := beq_iff_eq.2 (by omega)
  clear c_after
  by_cases c_page : r.page = 0
  case neg =>
    have y_page := hid c_page
    have p_page : (r.page == 0) = false := beq_eq_false_iff_ne.2 c_page
    have q_page : (r.page != 0) = true := bne_iff_ne.2 c_page
    clear c_page
    by_cases c_back : r.back = 0
    case neg =>
      have y_back := hid c_back
      have p_back : (r.back == 0) = false := beq_eq_false_iff_ne.2 c_back
      have q_back : (r.back != 0) = true := bne_iff_ne.2 c_back
      clear c_back
      go_wp2
      all_goals go_ret
      all_goals refine ⟨ret_bool ?_, (New.refl w).alloc _ _⟩
      all_goals (rw [HV2.out]; (try simp only [np, nf, nb, nu, nt, y_before.out, y_after.out, y_page.out, y_back.out, decide_true, decide_false, Bool.and_true, Bool.and_false, Bool.false_and, Bool.true_and]))
      all_goals first
        | done
        | rfl
        | (rw [eq_comm, Bool.eq_false_iff]; simp only [ne_eq, wi_iff, decide_eq_true_eq]; omega)
        | (rw [eq_comm]; simp only [wi_iff, decide_eq_true_eq]; omega)
        | (rw [Bool.eq_iff_iff]; simp only [wi_iff, decide_eq_true_eq]; omega)
    have y_back := hid c_back
    have p_back : (r.back == 0) = true := beq_iff_eq.2 c_back
    have q_back : (r.back != 0) = false := by rw [c_back]; rfl
    clear c_back
    by_cases c_next : r.next = 0
    case neg =>
      have y_next := hid c_next
      have p_next : (r.next == 0) = false := beq_eq_false_iff_ne.2 c_next
      have q_next : (r.next != 0) = true := bne_iff_ne.2 c_next
      clear c_next
      go_wp2
      all_goals go_ret
      all_goals refine ⟨ret_bool ?_, (New.refl w).alloc _ _⟩
      all_goals (rw [HV2.out]; (try simp only [np, nf, nb, nu, nt, y_before.out, y_after.out, y_page.out, y_back.out, y_next.out, decide_true, decide_false, Bool.and_true, Bool.and_false, Bool.false_and, Bool.true_and]))
      all_goals first
        | done
        | rfl
        | (rw [eq_comm, Bool.eq_false_iff]; simp only [ne_eq, wi_iff, decide_eq_true_eq]; omega)
        | (rw [eq_comm]; simp only [wi_iff, decide_eq_true_eq]; omega)
        | (rw [Bool.eq_iff_iff]; simp only [wi_iff, decide_eq_true_eq]; omega)
    have y_next := hid c_next
    have p_next : (r.next == 0) = true := beq_iff_eq.2 c_next
    have q_next : (r.next != 0) = false := by rw [c_next]; rfl
    clear c_next
    go_wp2
    all_goals go_ret
    all_goals refine ⟨ret_bool ?_, (New.refl w).alloc _ _⟩
    all_goals (rw [HV2.out]; (try simp only [np, nf, nb, nu, nt, y_before.out, y_after.out, y_page.out, y_back.out, y_next.out, decide_true, decide_false, Bool.and_true, Bool.and_false, Bool.false_and, Bool.true_and]))
    all_goals first
      | done
      | rfl
      | (rw [eq_comm, Bool.eq_false_iff]; simp only [ne_eq, wi_iff, decide_eq_true_eq]; omega)
      | (rw [eq_comm]; simp only [wi_iff, decide_eq_true_eq]; omega)
      | (rw [Bool.eq_iff_iff]; simp only [wi_iff, decide_eq_true_eq]; omega)
  have y_page := hid c_page
  have p_page : (r.page == 0) = true := beq_iff_eq.2 c_page
  have q_page : (r.page != 0) = false := by rw [c_page]; rfl
  clear c_page
  by_cases c_at : r.at_ = 0
  case neg =>
    have y_at := hid c_at
    have p_at : (r.at_ == 0) = false := beq_eq_false_iff_ne.2 c_at
    have q_at : (r.at_ != 0) = true := bne_iff_ne.2 c_at
    clear c_at
    by_cases c_back : r.back = 0
    case neg =>
      have y_back := hid c_back
      have p_back : (r.back == 0) = false := beq_eq_false_iff_ne.2 c_back
      have q_back : (r.back != 0) = true := bne_iff_ne.2 c_back
      clear c_back
      go_wp2
      all_goals go_ret
      all_goals refine ⟨ret_bool ?_, (New.refl w).alloc _ _⟩
      all_goals (rw [HV2.out]; (try simp only [np, nf, nb, nu, nt, y_before.out, y_after.out, y_page.out, y_at.out, y_back.out, decide_true, decide_false, Bool.and_true, Bool.and_false, Bool.false_and, Bool.true_and]))
      all_goals first
        | done
        | rfl
        | (rw [eq_comm, Bool.eq_false_iff]; simp only [ne_eq, wi_iff, decide_eq_true_eq]; omega)
        | (rw [eq_comm]; simp only [wi_iff, decide_eq_true_eq]; omega)
        | (rw [Bool.eq_iff_iff]; simp only [wi_iff, decide_eq_true_eq]; omega)
    have y_back := hid c_back
    have p_back : (r.back == 0) = true := beq_iff_eq.2 c_back
    have q_back : (r.back != 0) = false := by rw [c_back]; rfl
    clear c_back
    by_cases c_next : r.next = 0
    case neg =>
      have y_next := hid c_next
      have p_next : (r.next == 0) = false := beq_eq_false_iff_ne.2 c_next
      have q_next : (r.next != 0) = true := bne_iff_ne.2 c_next
      clear c_next
      go_wp2
      all_goals go_ret
      all_goals refine ⟨ret_bool ?_, (New.refl w).alloc _ _⟩
      all_goals (rw [HV2.out]; (try simp only [np, nf, nb, nu, nt, y_before.out, y_after.out, y_page.out, y_at.out, y_back.out, y_next.out, decide_true, decide_false, Bool.and_true, Bool.and_false, Bool.false_and, Bool.true_and]))
      all_goals first
        | done
        | rfl
        | (rw [eq_comm, Bool.eq_false_iff]; simp only [ne_eq, wi_iff, decide_eq_true_eq]; omega)
        | (rw [eq_comm]; simp only [wi_iff, decide_eq_true_eq]; omega)
        | (rw [Bool.eq_iff_iff]; simp only [wi_iff, decide_eq_true_eq]; omega)
    have y_next := hid c_next
    have p_next : (r.next == 0) = true := beq_iff_eq.2 c_next
    have q_next : (r.next != 0) = false := by rw [c_next]; rfl
    clear c_next
    go_wp2
    all_goals go_ret
    all_goals refine ⟨ret_bool ?_, (New.refl w).alloc _ _⟩
    all_goals (rw [HV2.out]; (try simp only [np, nf, nb, nu, nt, y_before.out, y_after.out, y_page.out, y_at.out, y_back.out, y_next.out, decide_true, decide_false, Bool.and_true, Bool.and_false, Bool.false_and, Bool.true_and]))
    all_goals first
      | done
      | rfl
      | (rw [eq_comm, Bool.eq_false_iff]; simp only [ne_eq, wi_iff, decide_eq_true_eq]; omega)
      | (rw [eq_comm]; simp only [wi_iff, decide_eq_true_eq]; omega)
      | (rw [Bool.eq_iff_iff]; simp only [wi_iff, decide_eq_true_eq]; omega)
  have y_at := hid c_at
  have p_at : (r.at_ == 0) = true := beq_iff_eq.2 c_at
  have q_at : (r.at_ != 0) = false := by rw [c_at]; rfl
  clear c_at
  by_cases c_back : r.back = 0
  case neg =>
    have y_back := hid c_back
    have p_back : (r.back == 0) = false := beq_eq_false_iff_ne.2 c_back
    have q_back : (r.back != 0) = true := bne_iff_ne.2 c_back
    clear c_back
    go_wp2
    all_goals go_ret
    all_goals refine ⟨ret_bool ?_, (New.refl w).alloc _ _⟩
    all_goals (rw [HV2.out]; (try simp only [np, nf, nb, nu, nt, y_before.out, y_after.out, y_page.out, y_at.out, y_back.out, decide_true, decide_false, Bool.and_true, Bool.and_false, Bool.false_and, Bool.true_and]))
    all_goals first
      | done
      | rfl
      | (rw [eq_comm, Bool.eq_false_iff]; simp only [ne_eq, wi_iff, decide_eq_true_eq]; omega)
      | (rw [eq_comm]; simp only [wi_iff, decide_eq_true_eq]; omega)
      | (rw [Bool.eq_iff_iff]; simp only [wi_iff, decide_eq_true_eq]; omega)
  have y_back := hid c_back
  have p_back : (r.back == 0) = true := beq_iff_eq.2 c_back
  have q_back : (r.back != 0) = false := by rw [c_back]; rfl
  clear c_back
  by_cases c_next : r.next = 0
  case neg =>
    have y_next := hid c_next
    have p_next : (r.next == 0) = false := beq_eq_false_iff_ne.2 c_next
    have q_next : (r.next != 0) = true := bne_iff_ne.2 c_next
    clear c_next
    go_wp2
    all_goals go_ret
    all_goals refine ⟨ret_bool ?_, (New.refl w).alloc _ _⟩
    all_goals (rw [HV2.out]; (try simp only [np, nf, nb, nu, nt, y_before.out, y_after.out, y_page.out, y_at.out, y_back.out, y_next.out, decide_true, decide_false, Bool.and_true, Bool.and_false, Bool.false_and, Bool.true_and]))
    all_goals first
      | done
      | rfl
      | (rw [eq_comm, Bool.eq_false_iff]; simp only [ne_eq, wi_iff, decide_eq_true_eq]; omega)
      | (rw [eq_comm]; simp only [wi_iff, decide_eq_true_eq]; omega)
      | (rw [Bool.eq_iff_iff]; simp only [wi_iff, decide_eq_true_eq]; omega)
  have y_next := hid c_next
  have p_next : (r.next == 0) = true := beq_iff_eq.2 c_next
  have q_next : (r.next != 0) = false := by rw [c_next]; rfl
  clear c_next
  by_cases c_units : r.units.length = 0
  case neg =>
    have y_units := hid c_units
    have p_units : ((r.units.length : Int) == 0) = false := beq_eq_false_iff_ne.2 (by omega)
    clear c_units
    go_wp2
    all_goals go_ret
    all_goals refine ⟨ret_bool ?_, (New.refl w).alloc _ _⟩
    all_goals (rw [HV2.out]; (try simp only [np, nf, nb, nu, nt, y_before.out, y_after.out, y_page.out, y_at.out, y_back.out, y_next.out, y_units.out, decide_true, decide_false, Bool.and_true, Bool.and_false, Bool.false_and, Bool.true_and]))
    all_goals first
      | done
      | rfl
      | (rw [eq_comm, Bool.eq_false_iff]; simp only [ne_eq, wi_iff, decide_eq_true_eq]; omega)
      | (rw [eq_comm]; simp only [wi_iff, decide_eq_true_eq]; omega)
      | (rw [Bool.eq_iff_iff]; simp only [wi_iff, decide_eq_true_eq]; omega)
  have y_units := hid c_units
  have p_units : ((r.units.length : Int) == 0) = true := beq_iff_eq.2 (by omega)
  clear c_units
  go_wp2
  all_goals go_ret
  all_goals refine ⟨ret_bool ?_, (New.refl w).alloc _ _⟩
  all_goals (rw [HV2.out]; (try simp only [np, nf, nb, nu, nt, y_before.out, y_after.out, y_page.out, y_at.out, y_back.out, y_next.out, y_units.out, decide_true, decide_false, Bool.and_true, Bool.and_false, Bool.false_and, Bool.true_and]))
  all_goals first
    | done
    | rfl
    | (rw [eq_comm, Bool.eq_false_iff]; simp only [ne_eq, wi_iff, decide_eq_true_eq]; omega)
    | (rw [eq_comm]; simp only [wi_iff, decide_eq_true_eq]; omega)
    | (rw [Bool.eq_iff_iff]; simp only [wi_iff, decide_eq_true_eq]; omega)
end Go.Proofs.Ytmchbciofdokfaa

namespace Go.Proofs.Ytmchbciofdokfaa
open Go.RowKit
set_option linter.unusedSimpArgs false
set_option linter.unusedVariables false


set_option maxHeartbeats 8000000 in
set_option maxRecDepth 100000 in
theorem refRec_6 (r : Rec) (bv av uv : Value) (w : World) (h : RecAt w r bv av uv) (hk : r.kind = 6) :
    Calls Try.prog 44 #[.agg (recCells r bv av uv)] w fun e w' => e = .returned (.bool (validB r)) ∧ New w w' := by
  have HO := hid h.units
  obtain ⟨⟨bp, bc, rfl, b1, b2, _⟩, ⟨ap, ac, rfl, a1, a2, _⟩, ⟨up, uc, rfl, l1, l2, _⟩⟩ := h
  unfold maxLen at a2 b2 l2
  have HV : Hid (validB r = (wi 0 r.unit 1000000 && (np r && nf r && nb r && openB r.units && decide (r.unit = 0) && nt r))) := hid (by simp [validB, hk])
  have HC : (recCells r (Value.slice bp r.before.size bc) (Value.slice ap r.after.size ac) (Value.slice up r.units.length uc)) = #[.int .i64 6, .int .i64 r.unit, .int .i64 r.page, .int .i64 r.at_, Value.slice bp r.before.size bc, Value.slice ap r.after.size ac, .int .i64 r.back, .int .i64 r.next, .string r.text, Value.slice up r.units.length uc] := by unfold recCells; rw [hk]
  rw [HC]
  clear HC hk
  by_cases e1 : wi 0 r.unit 1000000 = true
  case neg =>
    have e1 : wi 0 r.unit 1000000 = false := by simpa using e1
    go_enter Try.func44, Try.ntmps44
    go_wp2_with fail
    refine (refNum_any _ _).mono ?_
    rintro e w' ⟨rfl, rfl⟩
    rw [e1]
    go_wp2
    go_ret
    exact ⟨ret_bool (by rw [HV.out, e1]; rfl), (New.refl w).alloc _ _⟩
  go_enter Try.func44, Try.ntmps44
  go_wp2_with fail
  refine (refNum_any _ _).mono ?_
  rintro e w' ⟨rfl, rfl⟩
  rw [e1]
  have HV2 : Hid (validB r = (np r && nf r && nb r && openB r.units && decide (r.unit = 0) && nt r)) := hid (by rw [HV.out, e1]; rfl)
  by_cases c_before : r.before.size = 0
  case neg =>
    have y_before := hid c_before
    have p_before : decide (0 < r.before.size) = true := decide_eq_true (by omega)
    have s_before : ((r.before.size : Int) == 0) = false := beq_eq_false_iff_ne.2 (by omega)
    clear c_before
    by_cases c_back : r.back = 0
    case neg =>
      have y_back := hid c_back
      have p_back : (r.back == 0) = false := beq_eq_false_iff_ne.2 c_back
      have q_back : (r.back != 0) = true := bne_iff_ne.2 c_back
      clear c_back
      go_wp2
      all_goals go_ret
      all_goals refine ⟨ret_bool ?_, (New.refl w).alloc _ _⟩
      all_goals (rw [HV2.out]; (try simp only [np, nf, nb, nt, y_before.out, y_back.out, decide_true, decide_false, Bool.and_true, Bool.and_false, Bool.false_and, Bool.true_and]))
      all_goals first
        | done
        | rfl

    have y_back := hid c_back
    have p_back : (r.back == 0) = true := beq_iff_eq.2 c_back
    have q_back : (r.back != 0) = false := by rw [c_back]; rfl
    clear c_back
    by_cases c_next : r.next = 0
    case neg =>
      have y_next := hid c_next
      have p_next : (r.next == 0) = false := beq_eq_false_iff_ne.2 c_next
      have q_next : (r.next != 0) = true := bne_iff_ne.2 c_next
      clear c_next
      go_wp2
      all_goals go_ret
      all_goals refine ⟨ret_bool ?_, (New.refl w).alloc _ _⟩
      all_goals (rw [HV2.out]; (try simp only [np, nf, nb, nt, y_before.out, y_back.out, y_next.out, decide_true, decide_false, Bool.and_true, Bool.and_false, Bool.false_and, Bool.true_and]))
      all_goals first
        | done
        | rfl

    have y_next := hid c_next
    have p_next : (r.next == 0) = true := beq_iff_eq.2 c_next
    have q_next : (r.next != 0) = false := by rw [c_next]; rfl
    clear c_next
    go_wp2
    all_goals go_ret
    all_goals refine ⟨ret_bool ?_, (New.refl w).alloc _ _⟩
    all_goals (rw [HV2.out]; (try simp only [np, nf, nb, nt, y_before.out, y_back.out, y_next.out, decide_true, decide_false, Bool.and_true, Bool.and_false, Bool.false_and, Bool.true_and]))
    all_goals first
      | done
      | rfl

  have y_before := hid c_before
  have p_before : decide (0 < r.before.size) = false := decide_eq_false (by omega)
  have s_before : ((r.before.size : Int) == 0) = true := beq_iff_eq.2 (by omega)
  clear c_before
  by_cases c_after : r.after.size = 0
  case neg =>
    have y_after := hid c_after
    have p_after : decide (0 < r.after.size) = true := decide_eq_true (by omega)
    have s_after : ((r.after.size : Int) == 0) = false := beq_eq_false_iff_ne.2 (by omega)
    clear c_after
    by_cases c_back : r.back = 0
    case neg =>
      have y_back := hid c_back
      have p_back : (r.back == 0) = false := beq_eq_false_iff_ne.2 c_back
      have q_back : (r.back != 0) = true := bne_iff_ne.2 c_back
      clear c_back
      go_wp2
      all_goals go_ret
      all_goals refine ⟨ret_bool ?_, (New.refl w).alloc _ _⟩
      all_goals (rw [HV2.out]; (try simp only [np, nf, nb, nt, y_before.out, y_after.out, y_back.out, decide_true, decide_false, Bool.and_true, Bool.and_false, Bool.false_and, Bool.true_and]))
      all_goals first
        | done
        | rfl

    have y_back := hid c_back
    have p_back : (r.back == 0) = true := beq_iff_eq.2 c_back
    have q_back : (r.back != 0) = false := by rw [c_back]; rfl
    clear c_back
    by_cases c_next : r.next = 0
    case neg =>
      have y_next := hid c_next
      have p_next : (r.next == 0) = false := beq_eq_false_iff_ne.2 c_next
      have q_next : (r.next != 0) = true := bne_iff_ne.2 c_next
      clear c_next
      go_wp2
      all_goals go_ret
      all_goals refine ⟨ret_bool ?_, (New.refl w).alloc _ _⟩
      all_goals (rw [HV2.out]; (try simp only [np, nf, nb, nt, y_before.out, y_after.out, y_back.out, y_next.out, decide_true, decide_false, Bool.and_true, Bool.and_false, Bool.false_and, Bool.true_and]))
      all_goals first
        | done
        | rfl

    have y_next := hid c_next
    have p_next : (r.next == 0) = true := beq_iff_eq.2 c_next
    have q_next : (r.next != 0) = false := by rw [c_next]; rfl
    clear c_next
    go_wp2
    all_goals go_ret
    all_goals refine ⟨ret_bool ?_, (New.refl w).alloc _ _⟩
    all_goals (rw [HV2.out]; (try simp only [np, nf, nb, nt, y_before.out, y_after.out, y_back.out, y_next.out, decide_true, decide_false, Bool.and_true, Bool.and_false, Bool.false_and, Bool.true_and]))
    all_goals first
      | done
      | rfl

  have y_after := hid c_after
  have p_after : decide (0 < r.after.size) = false := decide_eq_false (by omega)
  have s_after : ((r.after.size : Int) == 0) = true := beq_iff_eq.2 (by omega)
  clear c_after
  by_cases c_page : r.page = 0
  case neg =>
    have y_page := hid c_page
    have p_page : (r.page == 0) = false := beq_eq_false_iff_ne.2 c_page
    have q_page : (r.page != 0) = true := bne_iff_ne.2 c_page
    clear c_page
    by_cases c_back : r.back = 0
    case neg =>
      have y_back := hid c_back
      have p_back : (r.back == 0) = false := beq_eq_false_iff_ne.2 c_back
      have q_back : (r.back != 0) = true := bne_iff_ne.2 c_back
      clear c_back
      go_wp2
      all_goals go_ret
      all_goals refine ⟨ret_bool ?_, (New.refl w).alloc _ _⟩
      all_goals (rw [HV2.out]; (try simp only [np, nf, nb, nt, y_before.out, y_after.out, y_page.out, y_back.out, decide_true, decide_false, Bool.and_true, Bool.and_false, Bool.false_and, Bool.true_and]))
      all_goals first
        | done
        | rfl

    have y_back := hid c_back
    have p_back : (r.back == 0) = true := beq_iff_eq.2 c_back
    have q_back : (r.back != 0) = false := by rw [c_back]; rfl
    clear c_back
    by_cases c_next : r.next = 0
    case neg =>
      have y_next := hid c_next
      have p_next : (r.next == 0) = false := beq_eq_false_iff_ne.2 c_next
      have q_next : (r.next != 0) = true := bne_iff_ne.2 c_next
      clear c_next
      go_wp2
      all_goals go_ret
      all_goals refine ⟨ret_bool ?_, (New.refl w).alloc _ _⟩
      all_goals (rw [HV2.out]; (try simp only [np, nf, nb, nt, y_before.out, y_after.out, y_page.out, y_back.out, y_next.out, decide_true, decide_false, Bool.and_true, Bool.and_false, Bool.false_and, Bool.true_and]))
      all_goals first
        | done
        | rfl

    have y_next := hid c_next
    have p_next : (r.next == 0) = true := beq_iff_eq.2 c_next
    have q_next : (r.next != 0) = false := by rw [c_next]; rfl
    clear c_next
    go_wp2
    all_goals go_ret
    all_goals refine ⟨ret_bool ?_, (New.refl w).alloc _ _⟩
    all_goals (rw [HV2.out]; (try simp only [np, nf, nb, nt, y_before.out, y_after.out, y_page.out, y_back.out, y_next.out, decide_true, decide_false, Bool.and_true, Bool.and_false, Bool.false_and, Bool.true_and]))
    all_goals first
      | done
      | rfl

  have y_page := hid c_page
  have p_page : (r.page == 0) = true := beq_iff_eq.2 c_page
  have q_page : (r.page != 0) = false := by rw [c_page]; rfl
  clear c_page
  by_cases c_at : r.at_ = 0
  case neg =>
    have y_at := hid c_at
    have p_at : (r.at_ == 0) = false := beq_eq_false_iff_ne.2 c_at
    have q_at : (r.at_ != 0) = true := bne_iff_ne.2 c_at
    clear c_at
    by_cases c_back : r.back = 0
    case neg =>
      have y_back := hid c_back
      have p_back : (r.back == 0) = false := beq_eq_false_iff_ne.2 c_back
      have q_back : (r.back != 0) = true := bne_iff_ne.2 c_back
      clear c_back
      go_wp2
      all_goals go_ret
      all_goals refine ⟨ret_bool ?_, (New.refl w).alloc _ _⟩
      all_goals (rw [HV2.out]; (try simp only [np, nf, nb, nt, y_before.out, y_after.out, y_page.out, y_at.out, y_back.out, decide_true, decide_false, Bool.and_true, Bool.and_false, Bool.false_and, Bool.true_and]))
      all_goals first
        | done
        | rfl

    have y_back := hid c_back
    have p_back : (r.back == 0) = true := beq_iff_eq.2 c_back
    have q_back : (r.back != 0) = false := by rw [c_back]; rfl
    clear c_back
    by_cases c_next : r.next = 0
    case neg =>
      have y_next := hid c_next
      have p_next : (r.next == 0) = false := beq_eq_false_iff_ne.2 c_next
      have q_next : (r.next != 0) = true := bne_iff_ne.2 c_next
      clear c_next
      go_wp2
      all_goals go_ret
      all_goals refine ⟨ret_bool ?_, (New.refl w).alloc _ _⟩
      all_goals (rw [HV2.out]; (try simp only [np, nf, nb, nt, y_before.out, y_after.out, y_page.out, y_at.out, y_back.out, y_next.out, decide_true, decide_false, Bool.and_true, Bool.and_false, Bool.false_and, Bool.true_and]))
      all_goals first
        | done
        | rfl

    have y_next := hid c_next
    have p_next : (r.next == 0) = true := beq_iff_eq.2 c_next
    have q_next : (r.next != 0) = false := by rw [c_next]; rfl
    clear c_next
    go_wp2
    all_goals go_ret
    all_goals refine ⟨ret_bool ?_, (New.refl w).alloc _ _⟩
    all_goals (rw [HV2.out]; (try simp only [np, nf, nb, nt, y_before.out, y_after.out, y_page.out, y_at.out, y_back.out, y_next.out, decide_true, decide_false, Bool.and_true, Bool.and_false, Bool.false_and, Bool.true_and]))
    all_goals first
      | done
      | rfl

  have y_at := hid c_at
  have p_at : (r.at_ == 0) = true := beq_iff_eq.2 c_at
  have q_at : (r.at_ != 0) = false := by rw [c_at]; rfl
  clear c_at
  by_cases c_back : r.back = 0
  case neg =>
    have y_back := hid c_back
    have p_back : (r.back == 0) = false := beq_eq_false_iff_ne.2 c_back
    have q_back : (r.back != 0) = true := bne_iff_ne.2 c_back
    clear c_back
    go_wp2
    all_goals go_ret
    all_goals refine ⟨ret_bool ?_, (New.refl w).alloc _ _⟩
    all_goals (rw [HV2.out]; (try simp only [np, nf, nb, nt, y_before.out, y_after.out, y_page.out, y_at.out, y_back.out, decide_true, decide_false, Bool.and_true, Bool.and_false, Bool.false_and, Bool.true_and]))
    all_goals first
      | done
      | rfl

  have y_back := hid c_back
  have p_back : (r.back == 0) = true := beq_iff_eq.2 c_back
  have q_back : (r.back != 0) = false := by rw [c_back]; rfl
  clear c_back
  by_cases c_next : r.next = 0
  case neg =>
    have y_next := hid c_next
    have p_next : (r.next == 0) = false := beq_eq_false_iff_ne.2 c_next
    have q_next : (r.next != 0) = true := bne_iff_ne.2 c_next
    clear c_next
    go_wp2
    all_goals go_ret
    all_goals refine ⟨ret_bool ?_, (New.refl w).alloc _ _⟩
    all_goals (rw [HV2.out]; (try simp only [np, nf, nb, nt, y_before.out, y_after.out, y_page.out, y_at.out, y_back.out, y_next.out, decide_true, decide_false, Bool.and_true, Bool.and_false, Bool.false_and, Bool.true_and]))
    all_goals first
      | done
      | rfl

  have y_next := hid c_next
  have p_next : (r.next == 0) = true := beq_iff_eq.2 c_next
  have q_next : (r.next != 0) = false := by rw [c_next]; rfl
  clear c_next
  by_cases c_text : r.text.size = 0
  case neg =>
    have y_text := hid c_text
    have p_text : ¬ r.text.toList = [] := fun e => c_text (toList_nil.1 e)
    clear c_text
    go_wp2
    all_goals go_ret
    all_goals refine ⟨ret_bool ?_, (New.refl w).alloc _ _⟩
    all_goals (rw [HV2.out]; (try simp only [np, nf, nb, nt, y_before.out, y_after.out, y_page.out, y_at.out, y_back.out, y_next.out, y_text.out, decide_true, decide_false, Bool.and_true, Bool.and_false, Bool.false_and, Bool.true_and]))
    all_goals first
      | done
      | rfl

  have y_text := hid c_text
  have p_text : r.text.toList = [] := toList_nil.2 c_text
  clear c_text
  by_cases c_unit : r.unit = 0
  case neg =>
    have y_unit := hid c_unit
    have p_unit : (r.unit == 0) = false := beq_eq_false_iff_ne.2 c_unit
    clear c_unit
    go_wp2
    all_goals go_ret
    all_goals refine ⟨ret_bool ?_, (New.refl w).alloc _ _⟩
    all_goals (rw [HV2.out]; simp only [np, nf, nb, nt, y_before.out, y_after.out, y_page.out, y_at.out, y_back.out, y_next.out, y_text.out, y_unit.out, decide_true, decide_false, Bool.and_true, Bool.and_false, Bool.false_and, Bool.true_and])
  have y_unit := hid c_unit
  have p_unit : (r.unit == 0) = true := beq_iff_eq.2 c_unit
  clear c_unit
  go_wp2_with fail
  refine (isMark_any _ r.units _ (HO.out.new ((New.refl w).alloc _ _))).mono ?_
  rintro e w' ⟨rfl, hn⟩
  have HN := hid hn
  clear hn
  obtain ⟨OB, hob⟩ : ∃ OB, openB r.units = OB := ⟨_, rfl⟩
  rw [hob]
  go_wp2
  go_ret
  refine ⟨ret_bool ?_, ((New.refl w).alloc _ _).trans HN.out⟩
  rw [HV2.out]
  simp only [np, nf, nb, nt, y_before.out, y_after.out, y_page.out, y_at.out, y_back.out, y_next.out, y_text.out, y_unit.out, hob, decide_true, decide_false, Bool.and_true, Bool.and_false, Bool.false_and, Bool.true_and]
end Go.Proofs.Ytmchbciofdokfaa

namespace Go.Proofs.Ytmchbciofdokfaa
open Go.RowKit
set_option linter.unusedSimpArgs false
set_option linter.unusedVariables false


set_option maxHeartbeats 8000000 in
set_option maxRecDepth 100000 in
theorem refRec_7 (r : Rec) (bv av uv : Value) (w : World) (h : RecAt w r bv av uv) (hk : r.kind = 7) :
    Calls Try.prog 44 #[.agg (recCells r bv av uv)] w fun e w' => e = .returned (.bool (validB r)) ∧ New w w' := by
  obtain ⟨⟨bp, bc, rfl, b1, b2, _⟩, ⟨ap, ac, rfl, a1, a2, _⟩, ⟨up, uc, rfl, l1, l2, _⟩⟩ := h
  unfold maxLen at a2 b2 l2
  have HV : Hid (validB r = (wi 0 r.unit 1000000 && (np r && nf r && nb r && nu r && decide (r.text.size ≤ 200)))) := hid (by simp [validB, hk])
  have HC : (recCells r (Value.slice bp r.before.size bc) (Value.slice ap r.after.size ac) (Value.slice up r.units.length uc)) = #[.int .i64 7, .int .i64 r.unit, .int .i64 r.page, .int .i64 r.at_, Value.slice bp r.before.size bc, Value.slice ap r.after.size ac, .int .i64 r.back, .int .i64 r.next, .string r.text, Value.slice up r.units.length uc] := by unfold recCells; rw [hk]
  rw [HC]
  clear HC hk
  by_cases e1 : wi 0 r.unit 1000000 = true
  case neg =>
    have e1 : wi 0 r.unit 1000000 = false := by simpa using e1
    go_enter Try.func44, Try.ntmps44
    go_wp2_with fail
    refine (refNum_any _ _).mono ?_
    rintro e w' ⟨rfl, rfl⟩
    rw [e1]
    go_wp2
    go_ret
    exact ⟨ret_bool (by rw [HV.out, e1]; rfl), (New.refl w).alloc _ _⟩
  go_enter Try.func44, Try.ntmps44
  go_wp2_with fail
  refine (refNum_any _ _).mono ?_
  rintro e w' ⟨rfl, rfl⟩
  rw [e1]
  have HV2 : Hid (validB r = (np r && nf r && nb r && nu r && decide (r.text.size ≤ 200))) := hid (by rw [HV.out, e1]; rfl)
  by_cases c_before : r.before.size = 0
  case neg =>
    have y_before := hid c_before
    have p_before : decide (0 < r.before.size) = true := decide_eq_true (by omega)
    have s_before : ((r.before.size : Int) == 0) = false := beq_eq_false_iff_ne.2 (by omega)
    clear c_before
    by_cases c_back : r.back = 0
    case neg =>
      have y_back := hid c_back
      have p_back : (r.back == 0) = false := beq_eq_false_iff_ne.2 c_back
      have q_back : (r.back != 0) = true := bne_iff_ne.2 c_back
      clear c_back
      go_wp2
      all_goals go_ret
      all_goals refine ⟨ret_bool ?_, (New.refl w).alloc _ _⟩
      all_goals (rw [HV2.out]; (try simp only [np, nf, nb, nu, nt, y_before.out, y_back.out, decide_true, decide_false, Bool.and_true, Bool.and_false, Bool.false_and, Bool.true_and]))
      all_goals first
        | done
        | rfl
        | (rw [eq_comm, Bool.eq_false_iff]; simp only [ne_eq, wi_iff, decide_eq_true_eq]; omega)
        | (rw [eq_comm]; simp only [wi_iff, decide_eq_true_eq]; omega)
        | (rw [Bool.eq_iff_iff]; simp only [wi_iff, decide_eq_true_eq]; omega)
    have y_back := hid c_back
    have p_back : (r.back == 0) = true := beq_iff_eq.2 c_back
    have q_back : (r.back != 0) = false := by rw [c_back]; rfl
    clear c_back
    by_cases c_next : r.next = 0
    case neg =>
      have y_next := hid c_next
      have p_next : (r.next == 0) = false := beq_eq_false_iff_ne.2 c_next
      have q_next : (r.next != 0) = true := bne_iff_ne.2 c_next
      clear c_next
      go_wp2
      all_goals go_ret
      all_goals refine ⟨ret_bool ?_, (New.refl w).alloc _ _⟩
      all_goals (rw [HV2.out]; (try simp only [np, nf, nb, nu, nt, y_before.out, y_back.out, y_next.out, decide_true, decide_false, Bool.and_true, Bool.and_false, Bool.false_and, Bool.true_and]))
      all_goals first
        | done
        | rfl
        | (rw [eq_comm, Bool.eq_false_iff]; simp only [ne_eq, wi_iff, decide_eq_true_eq]; omega)
        | (rw [eq_comm]; simp only [wi_iff, decide_eq_true_eq]; omega)
        | (rw [Bool.eq_iff_iff]; simp only [wi_iff, decide_eq_true_eq]; omega)
    have y_next := hid c_next
    have p_next : (r.next == 0) = true := beq_iff_eq.2 c_next
    have q_next : (r.next != 0) = false := by rw [c_next]; rfl
    clear c_next
    go_wp2
    all_goals go_ret
    all_goals refine ⟨ret_bool ?_, (New.refl w).alloc _ _⟩
    all_goals (rw [HV2.out]; (try simp only [np, nf, nb, nu, nt, y_before.out, y_back.out, y_next.out, decide_true, decide_false, Bool.and_true, Bool.and_false, Bool.false_and, Bool.true_and]))
    all_goals first
      | done
      | rfl
      | (rw [eq_comm, Bool.eq_false_iff]; simp only [ne_eq, wi_iff, decide_eq_true_eq]; omega)
      | (rw [eq_comm]; simp only [wi_iff, decide_eq_true_eq]; omega)
      | (rw [Bool.eq_iff_iff]; simp only [wi_iff, decide_eq_true_eq]; omega)
  have y_before := hid c_before
  have p_before : decide (0 < r.before.size) = false := decide_eq_false (by omega)
  have s_before : ((r.before.size : Int) == 0) = true := beq_iff_eq.2 (by omega)
  clear c_before
  by_cases c_after : r.after.size = 0
  case neg =>
    have y_after := hid c_after
    have p_after : decide (0 < r.after.size) = true := decide_eq_true (by omega)
    have s_after : ((r.after.size : Int) == 0) = false := beq_eq_false_iff_ne.2 (by omega)
    clear c_after
    by_cases c_back : r.back = 0
    case neg =>
      have y_back := hid c_back
      have p_back : (r.back == 0) = false := beq_eq_false_iff_ne.2 c_back
      have q_back : (r.back != 0) = true := bne_iff_ne.2 c_back
      clear c_back
      go_wp2
      all_goals go_ret
      all_goals refine ⟨ret_bool ?_, (New.refl w).alloc _ _⟩
      all_goals (rw [HV2.out]; (try simp only [np, nf, nb, nu, nt, y_before.out, y_after.out, y_back.out, decide_true, decide_false, Bool.and_true, Bool.and_false, Bool.false_and, Bool.true_and]))
      all_goals first
        | done
        | rfl
        | (rw [eq_comm, Bool.eq_false_iff]; simp only [ne_eq, wi_iff, decide_eq_true_eq]; omega)
        | (rw [eq_comm]; simp only [wi_iff, decide_eq_true_eq]; omega)
        | (rw [Bool.eq_iff_iff]; simp only [wi_iff, decide_eq_true_eq]; omega)
    have y_back := hid c_back
    have p_back : (r.back == 0) = true := beq_iff_eq.2 c_back
    have q_back : (r.back != 0) = false := by rw [c_back]; rfl
    clear c_back
    by_cases c_next : r.next = 0
    case neg =>
      have y_next := hid c_next
      have p_next : (r.next == 0) = false := beq_eq_false_iff_ne.2 c_next
      have q_next : (r.next != 0) = true := bne_iff_ne.2 c_next
      clear c_next
      go_wp2
      all_goals go_ret
      all_goals refine ⟨ret_bool ?_, (New.refl w).alloc _ _⟩
      all_goals (rw [HV2.out]; (try simp only [np, nf, nb, nu, nt, y_before.out, y_after.out, y_back.out, y_next.out, decide_true, decide_false, Bool.and_true, Bool.and_false, Bool.false_and, Bool.true_and]))
      all_goals first
        | done
        | rfl
        | (rw [eq_comm, Bool.eq_false_iff]; simp only [ne_eq, wi_iff, decide_eq_true_eq]; omega)
        | (rw [eq_comm]; simp only [wi_iff, decide_eq_true_eq]; omega)
        | (rw [Bool.eq_iff_iff]; simp only [wi_iff, decide_eq_true_eq]; omega)
    have y_next := hid c_next
    have p_next : (r.next == 0) = true := beq_iff_eq.2 c_next
    have q_next : (r.next != 0) = false := by rw [c_next]; rfl
    clear c_next
    go_wp2
    all_goals go_ret
    all_goals refine ⟨ret_bool ?_, (New.refl w).alloc _ _⟩
    all_goals (rw [HV2.out]; (try simp only [np, nf, nb, nu, nt, y_before.out, y_after.out, y_back.out, y_next.out, decide_true, decide_false, Bool.and_true, Bool.and_false, Bool.false_and, Bool.true_and]))
    all_goals first
      | done
      | rfl
      | (rw [eq_comm, Bool.eq_false_iff]; simp only [ne_eq, wi_iff, decide_eq_true_eq]; omega)
      | (rw [eq_comm]; simp only [wi_iff, decide_eq_true_eq]; omega)
      | (rw [Bool.eq_iff_iff]; simp only [wi_iff, decide_eq_true_eq]; omega)
  have y_after := hid c_after
  have p_after : decide (0 < r.after.size) = false := decide_eq_false (by omega)
  have s_after : ((r.after.size : Int) == 0) = true := beq_iff_eq.2 (by omega)
  clear c_after
  by_cases c_page : r.page = 0
  case neg =>
    have y_page := hid c_page
    have p_page : (r.page == 0) = false := beq_eq_false_iff_ne.2 c_page
    have q_page : (r.page != 0) = true := bne_iff_ne.2 c_page
    clear c_page
    by_cases c_back : r.back = 0
    case neg =>
      have y_back := hid c_back
      have p_back : (r.back == 0) = false := beq_eq_false_iff_ne.2 c_back
      have q_back : (r.back != 0) = true := bne_iff_ne.2 c_back
      clear c_back
      go_wp2
      all_goals go_ret
      all_goals refine ⟨ret_bool ?_, (New.refl w).alloc _ _⟩
      all_goals (rw [HV2.out]; (try simp only [np, nf, nb, nu, nt, y_before.out, y_after.out, y_page.out, y_back.out, decide_true, decide_false, Bool.and_true, Bool.and_false, Bool.false_and, Bool.true_and]))
      all_goals first
        | done
        | rfl
        | (rw [eq_comm, Bool.eq_false_iff]; simp only [ne_eq, wi_iff, decide_eq_true_eq]; omega)
        | (rw [eq_comm]; simp only [wi_iff, decide_eq_true_eq]; omega)
        | (rw [Bool.eq_iff_iff]; simp only [wi_iff, decide_eq_true_eq]; omega)
    have y_back := hid c_back
    have p_back : (r.back == 0) = true := beq_iff_eq.2 c_back
    have q_back : (r.back != 0) = false := by rw [c_back]; rfl
    clear c_back
    by_cases c_next : r.next = 0
    case neg =>
      have y_next := hid c_next
      have p_next : (r.next == 0) = false := beq_eq_false_iff_ne.2 c_next
      have q_next : (r.next != 0) = true := bne_iff_ne.2 c_next
      clear c_next
      go_wp2
      all_goals go_ret
      all_goals refine ⟨ret_bool ?_, (New.refl w).alloc _ _⟩
      all_goals (rw [HV2.out]; (try simp only [np, nf, nb, nu, nt, y_before.out, y_after.out, y_page.out, y_back.out, y_next.out, decide_true, decide_false, Bool.and_true, Bool.and_false, Bool.false_and, Bool.true_and]))
      all_goals first
        | done
        | rfl
        | (rw [eq_comm, Bool.eq_false_iff]; simp only [ne_eq, wi_iff, decide_eq_true_eq]; omega)
        | (rw [eq_comm]; simp only [wi_iff, decide_eq_true_eq]; omega)
        | (rw [Bool.eq_iff_iff]; simp only [wi_iff, decide_eq_true_eq]; omega)
    have y_next := hid c_next
    have p_next : (r.next == 0) = true := beq_iff_eq.2 c_next
    have q_next : (r.next != 0) = false := by rw [c_next]; rfl
    clear c_next
    go_wp2
    all_goals go_ret
    all_goals refine ⟨ret_bool ?_, (New.refl w).alloc _ _⟩
    all_goals (rw [HV2.out]; (try simp only [np, nf, nb, nu, nt, y_before.out, y_after.out, y_page.out, y_back.out, y_next.out, decide_true, decide_false, Bool.and_true, Bool.and_false, Bool.false_and, Bool.true_and]))
    all_goals first
      | done
      | rfl
      | (rw [eq_comm, Bool.eq_false_iff]; simp only [ne_eq, wi_iff, decide_eq_true_eq]; omega)
      | (rw [eq_comm]; simp only [wi_iff, decide_eq_true_eq]; omega)
      | (rw [Bool.eq_iff_iff]; simp only [wi_iff, decide_eq_true_eq]; omega)
  have y_page := hid c_page
  have p_page : (r.page == 0) = true := beq_iff_eq.2 c_page
  have q_page : (r.page != 0) = false := by rw [c_page]; rfl
  clear c_page
  by_cases c_at : r.at_ = 0
  case neg =>
    have y_at := hid c_at
    have p_at : (r.at_ == 0) = false := beq_eq_false_iff_ne.2 c_at
    have q_at : (r.at_ != 0) = true := bne_iff_ne.2 c_at
    clear c_at
    by_cases c_back : r.back = 0
    case neg =>
      have y_back := hid c_back
      have p_back : (r.back == 0) = false := beq_eq_false_iff_ne.2 c_back
      have q_back : (r.back != 0) = true := bne_iff_ne.2 c_back
      clear c_back
      go_wp2
      all_goals go_ret
      all_goals refine ⟨ret_bool ?_, (New.refl w).alloc _ _⟩
      all_goals (rw [HV2.out]; (try simp only [np, nf, nb, nu, nt, y_before.out, y_after.out, y_page.out, y_at.out, y_back.out, decide_true, decide_false, Bool.and_true, Bool.and_false, Bool.false_and, Bool.true_and]))
      all_goals first
        | done
        | rfl
        | (rw [eq_comm, Bool.eq_false_iff]; simp only [ne_eq, wi_iff, decide_eq_true_eq]; omega)
        | (rw [eq_comm]; simp only [wi_iff, decide_eq_true_eq]; omega)
        | (rw [Bool.eq_iff_iff]; simp only [wi_iff, decide_eq_true_eq]; omega)
    have y_back := hid c_back
    have p_back : (r.back == 0) = true := beq_iff_eq.2 c_back
    have q_back : (r.back != 0) = false := by rw [c_back]; rfl
    clear c_back
    by_cases c_next : r.next = 0
    case neg =>
      have y_next := hid c_next
      have p_next : (r.next == 0) = false := beq_eq_false_iff_ne.2 c_next
      have q_next : (r.next != 0) = true := bne_iff_ne.2 c_next
      clear c_next
      go_wp2
      all_goals go_ret
      all_goals refine ⟨ret_bool ?_, (New.refl w).alloc _ _⟩
      all_goals (rw [HV2.out]; (try simp only [np, nf, nb, nu, nt, y_before.out, y_after.out, y_page.out, y_at.out, y_back.out, y_next.out, decide_true, decide_false, Bool.and_true, Bool.and_false, Bool.false_and, Bool.true_and]))
      all_goals first
        | done
        | rfl
        | (rw [eq_comm, Bool.eq_false_iff]; simp only [ne_eq, wi_iff, decide_eq_true_eq]; omega)
        | (rw [eq_comm]; simp only [wi_iff, decide_eq_true_eq]; omega)
        | (rw [Bool.eq_iff_iff]; simp only [wi_iff, decide_eq_true_eq]; omega)
    have y_next := hid c_next
    have p_next : (r.next == 0) = true := beq_iff_eq.2 c_next
    have q_next : (r.next != 0) = false := by rw [c_next]; rfl
    clear c_next
    go_wp2
    all_goals go_ret
    all_goals refine ⟨ret_bool ?_, (New.refl w).alloc _ _⟩
    all_goals (rw [HV2.out]; (try simp only [np, nf, nb, nu, nt, y_before.out, y_after.out, y_page.out, y_at.out, y_back.out, y_next.out, decide_true, decide_false, Bool.and_true, Bool.and_false, Bool.false_and, Bool.true_and]))
    all_goals first
      | done
      | rfl
      | (rw [eq_comm, Bool.eq_false_iff]; simp only [ne_eq, wi_iff, decide_eq_true_eq]; omega)
      | (rw [eq_comm]; simp only [wi_iff, decide_eq_true_eq]; omega)
      | (rw [Bool.eq_iff_iff]; simp only [wi_iff, decide_eq_true_eq]; omega)
  have y_at := hid c_at
  have p_at : (r.at_ == 0) = true := beq_iff_eq.2 c_at
  have q_at : (r.at_ != 0) = false := by rw [c_at]; rfl
  clear c_at
  by_cases c_back : r.back = 0
  case neg =>
    have y_back := hid c_back
    have p_back : (r.back == 0) = false := beq_eq_false_iff_ne.2 c_back
    have q_back : (r.back != 0) = true := bne_iff_ne.2 c_back
    clear c_back
    go_wp2
    all_goals go_ret
    all_goals refine ⟨ret_bool ?_, (New.refl w).alloc _ _⟩
    all_goals (rw [HV2.out]; (try simp only [np, nf, nb, nu, nt, y_before.out, y_after.out, y_page.out, y_at.out, y_back.out, decide_true, decide_false, Bool.and_true, Bool.and_false, Bool.false_and, Bool.true_and]))
    all_goals first
      | done
      | rfl
      | (rw [eq_comm, Bool.eq_false_iff]; simp only [ne_eq, wi_iff, decide_eq_true_eq]; omega)
      | (rw [eq_comm]; simp only [wi_iff, decide_eq_true_eq]; omega)
      | (rw [Bool.eq_iff_iff]; simp only [wi_iff, decide_eq_true_eq]; omega)
  have y_back := hid c_back
  have p_back : (r.back == 0) = true := beq_iff_eq.2 c_back
  have q_back : (r.back != 0) = false := by rw [c_back]; rfl
  clear c_back
  by_cases c_next : r.next = 0
  case neg =>
    have y_next := hid c_next
    have p_next : (r.next == 0) = false := beq_eq_false_iff_ne.2 c_next
    have q_next : (r.next != 0) = true := bne_iff_ne.2 c_next
    clear c_next
    go_wp2
    all_goals go_ret
    all_goals refine ⟨ret_bool ?_, (New.refl w).alloc _ _⟩
    all_goals (rw [HV2.out]; (try simp only [np, nf, nb, nu, nt, y_before.out, y_after.out, y_page.out, y_at.out, y_back.out, y_next.out, decide_true, decide_false, Bool.and_true, Bool.and_false, Bool.false_and, Bool.true_and]))
    all_goals first
      | done
      | rfl
      | (rw [eq_comm, Bool.eq_false_iff]; simp only [ne_eq, wi_iff, decide_eq_true_eq]; omega)
      | (rw [eq_comm]; simp only [wi_iff, decide_eq_true_eq]; omega)
      | (rw [Bool.eq_iff_iff]; simp only [wi_iff, decide_eq_true_eq]; omega)
  have y_next := hid c_next
  have p_next : (r.next == 0) = true := beq_iff_eq.2 c_next
  have q_next : (r.next != 0) = false := by rw [c_next]; rfl
  clear c_next
  by_cases c_units : r.units.length = 0
  case neg =>
    have y_units := hid c_units
    have p_units : ((r.units.length : Int) == 0) = false := beq_eq_false_iff_ne.2 (by omega)
    clear c_units
    go_wp2
    all_goals go_ret
    all_goals refine ⟨ret_bool ?_, (New.refl w).alloc _ _⟩
    all_goals (rw [HV2.out]; (try simp only [np, nf, nb, nu, nt, y_before.out, y_after.out, y_page.out, y_at.out, y_back.out, y_next.out, y_units.out, decide_true, decide_false, Bool.and_true, Bool.and_false, Bool.false_and, Bool.true_and]))
    all_goals first
      | done
      | rfl
      | (rw [eq_comm, Bool.eq_false_iff]; simp only [ne_eq, wi_iff, decide_eq_true_eq]; omega)
      | (rw [eq_comm]; simp only [wi_iff, decide_eq_true_eq]; omega)
      | (rw [Bool.eq_iff_iff]; simp only [wi_iff, decide_eq_true_eq]; omega)
  have y_units := hid c_units
  have p_units : ((r.units.length : Int) == 0) = true := beq_iff_eq.2 (by omega)
  clear c_units
  go_wp2
  all_goals go_ret
  all_goals refine ⟨ret_bool ?_, (New.refl w).alloc _ _⟩
  all_goals (rw [HV2.out]; (try simp only [np, nf, nb, nu, nt, y_before.out, y_after.out, y_page.out, y_at.out, y_back.out, y_next.out, y_units.out, decide_true, decide_false, Bool.and_true, Bool.and_false, Bool.false_and, Bool.true_and]))
  all_goals first
    | done
    | rfl
    | (rw [eq_comm, Bool.eq_false_iff]; simp only [ne_eq, wi_iff, decide_eq_true_eq]; omega)
    | (rw [eq_comm]; simp only [wi_iff, decide_eq_true_eq]; omega)
    | (rw [Bool.eq_iff_iff]; simp only [wi_iff, decide_eq_true_eq]; omega)
end Go.Proofs.Ytmchbciofdokfaa

namespace Go.Proofs.Ytmchbciofdokfaa
open Go.RowKit
set_option linter.unusedSimpArgs false
set_option linter.unusedVariables false

set_option maxHeartbeats 8000000 in
set_option maxRecDepth 100000 in
theorem refRec_no (r : Rec) (bv av uv : Value) (w : World) (h : RecAt w r bv av uv) (h1 : (r.kind == 1) = false) (h2 : (r.kind == 2) = false) (h3 : (r.kind == 3) = false) (h4 : (r.kind == 4) = false) (h5 : (r.kind == 5) = false) (h6 : (r.kind == 6) = false) (h7 : (r.kind == 7) = false) :
    Calls Try.prog 44 #[.agg (recCells r bv av uv)] w fun e w' => e = .returned (.bool (validB r)) ∧ New w w' := by
  obtain ⟨⟨bp, bc, rfl, b1, b2, _⟩, ⟨ap, ac, rfl, a1, a2, _⟩, ⟨up, uc, rfl, l1, l2, _⟩⟩ := h
  unfold maxLen at a2 b2 l2
  unfold recCells
  have HV : Hid (validB r = false) := hid (by simp only [beq_eq_false_iff_ne, ne_eq] at *; simp [validB, *])
  by_cases e1 : wi 0 r.unit 1000000 = true
  case neg =>
    have e1 : wi 0 r.unit 1000000 = false := by simpa using e1
    go_enter Try.func44, Try.ntmps44
    go_wp2_with fail
    refine (refNum_any _ _).mono ?_
    rintro e w' ⟨rfl, rfl⟩
    rw [e1]
    go_wp2
    go_ret
    exact ⟨ret_bool (by rw [HV.out]), (New.refl w).alloc _ _⟩
  go_enter Try.func44, Try.ntmps44
  go_wp2_with fail
  refine (refNum_any _ _).mono ?_
  rintro e w' ⟨rfl, rfl⟩
  rw [e1]
  by_cases c_before : r.before.size = 0
  case neg =>
    have y_before := hid c_before
    have p_before : decide (0 < r.before.size) = true := decide_eq_true (by omega)
    have s_before : ((r.before.size : Int) == 0) = false := beq_eq_false_iff_ne.2 (by omega)
    clear c_before
    by_cases c_back : r.back = 0
    case neg =>
      have y_back := hid c_back
      have p_back : (r.back == 0) = false := beq_eq_false_iff_ne.2 c_back
      have q_back : (r.back != 0) = true := bne_iff_ne.2 c_back
      clear c_back
      go_wp2
      go_ret
      exact ⟨ret_bool (by rw [HV.out]), (New.refl w).alloc _ _⟩
    have y_back := hid c_back
    have p_back : (r.back == 0) = true := beq_iff_eq.2 c_back
    have q_back : (r.back != 0) = false := by rw [c_back]; rfl
    clear c_back
    by_cases c_next : r.next = 0
    case neg =>
      have y_next := hid c_next
      have p_next : (r.next == 0) = false := beq_eq_false_iff_ne.2 c_next
      have q_next : (r.next != 0) = true := bne_iff_ne.2 c_next
      clear c_next
      go_wp2
      go_ret
      exact ⟨ret_bool (by rw [HV.out]), (New.refl w).alloc _ _⟩
    have y_next := hid c_next
    have p_next : (r.next == 0) = true := beq_iff_eq.2 c_next
    have q_next : (r.next != 0) = false := by rw [c_next]; rfl
    clear c_next
    go_wp2
    go_ret
    exact ⟨ret_bool (by rw [HV.out]), (New.refl w).alloc _ _⟩
  have y_before := hid c_before
  have p_before : decide (0 < r.before.size) = false := decide_eq_false (by omega)
  have s_before : ((r.before.size : Int) == 0) = true := beq_iff_eq.2 (by omega)
  clear c_before
  by_cases c_after : r.after.size = 0
  case neg =>
    have y_after := hid c_after
    have p_after : decide (0 < r.after.size) = true := decide_eq_true (by omega)
    have s_after : ((r.after.size : Int) == 0) = false := beq_eq_false_iff_ne.2 (by omega)
    clear c_after
    by_cases c_back : r.back = 0
    case neg =>
      have y_back := hid c_back
      have p_back : (r.back == 0) = false := beq_eq_false_iff_ne.2 c_back
      have q_back : (r.back != 0) = true := bne_iff_ne.2 c_back
      clear c_back
      go_wp2
      go_ret
      exact ⟨ret_bool (by rw [HV.out]), (New.refl w).alloc _ _⟩
    have y_back := hid c_back
    have p_back : (r.back == 0) = true := beq_iff_eq.2 c_back
    have q_back : (r.back != 0) = false := by rw [c_back]; rfl
    clear c_back
    by_cases c_next : r.next = 0
    case neg =>
      have y_next := hid c_next
      have p_next : (r.next == 0) = false := beq_eq_false_iff_ne.2 c_next
      have q_next : (r.next != 0) = true := bne_iff_ne.2 c_next
      clear c_next
      go_wp2
      go_ret
      exact ⟨ret_bool (by rw [HV.out]), (New.refl w).alloc _ _⟩
    have y_next := hid c_next
    have p_next : (r.next == 0) = true := beq_iff_eq.2 c_next
    have q_next : (r.next != 0) = false := by rw [c_next]; rfl
    clear c_next
    go_wp2
    go_ret
    exact ⟨ret_bool (by rw [HV.out]), (New.refl w).alloc _ _⟩
  have y_after := hid c_after
  have p_after : decide (0 < r.after.size) = false := decide_eq_false (by omega)
  have s_after : ((r.after.size : Int) == 0) = true := beq_iff_eq.2 (by omega)
  clear c_after
  by_cases c_page : r.page = 0
  case neg =>
    have y_page := hid c_page
    have p_page : (r.page == 0) = false := beq_eq_false_iff_ne.2 c_page
    have q_page : (r.page != 0) = true := bne_iff_ne.2 c_page
    clear c_page
    by_cases c_back : r.back = 0
    case neg =>
      have y_back := hid c_back
      have p_back : (r.back == 0) = false := beq_eq_false_iff_ne.2 c_back
      have q_back : (r.back != 0) = true := bne_iff_ne.2 c_back
      clear c_back
      go_wp2
      go_ret
      exact ⟨ret_bool (by rw [HV.out]), (New.refl w).alloc _ _⟩
    have y_back := hid c_back
    have p_back : (r.back == 0) = true := beq_iff_eq.2 c_back
    have q_back : (r.back != 0) = false := by rw [c_back]; rfl
    clear c_back
    by_cases c_next : r.next = 0
    case neg =>
      have y_next := hid c_next
      have p_next : (r.next == 0) = false := beq_eq_false_iff_ne.2 c_next
      have q_next : (r.next != 0) = true := bne_iff_ne.2 c_next
      clear c_next
      go_wp2
      go_ret
      exact ⟨ret_bool (by rw [HV.out]), (New.refl w).alloc _ _⟩
    have y_next := hid c_next
    have p_next : (r.next == 0) = true := beq_iff_eq.2 c_next
    have q_next : (r.next != 0) = false := by rw [c_next]; rfl
    clear c_next
    go_wp2
    go_ret
    exact ⟨ret_bool (by rw [HV.out]), (New.refl w).alloc _ _⟩
  have y_page := hid c_page
  have p_page : (r.page == 0) = true := beq_iff_eq.2 c_page
  have q_page : (r.page != 0) = false := by rw [c_page]; rfl
  clear c_page
  by_cases c_at : r.at_ = 0
  case neg =>
    have y_at := hid c_at
    have p_at : (r.at_ == 0) = false := beq_eq_false_iff_ne.2 c_at
    have q_at : (r.at_ != 0) = true := bne_iff_ne.2 c_at
    clear c_at
    by_cases c_back : r.back = 0
    case neg =>
      have y_back := hid c_back
      have p_back : (r.back == 0) = false := beq_eq_false_iff_ne.2 c_back
      have q_back : (r.back != 0) = true := bne_iff_ne.2 c_back
      clear c_back
      go_wp2
      go_ret
      exact ⟨ret_bool (by rw [HV.out]), (New.refl w).alloc _ _⟩
    have y_back := hid c_back
    have p_back : (r.back == 0) = true := beq_iff_eq.2 c_back
    have q_back : (r.back != 0) = false := by rw [c_back]; rfl
    clear c_back
    by_cases c_next : r.next = 0
    case neg =>
      have y_next := hid c_next
      have p_next : (r.next == 0) = false := beq_eq_false_iff_ne.2 c_next
      have q_next : (r.next != 0) = true := bne_iff_ne.2 c_next
      clear c_next
      go_wp2
      go_ret
      exact ⟨ret_bool (by rw [HV.out]), (New.refl w).alloc _ _⟩
    have y_next := hid c_next
    have p_next : (r.next == 0) = true := beq_iff_eq.2 c_next
    have q_next : (r.next != 0) = false := by rw [c_next]; rfl
    clear c_next
    go_wp2
    go_ret
    exact ⟨ret_bool (by rw [HV.out]), (New.refl w).alloc _ _⟩
  have y_at := hid c_at
  have p_at : (r.at_ == 0) = true := beq_iff_eq.2 c_at
  have q_at : (r.at_ != 0) = false := by rw [c_at]; rfl
  clear c_at
  by_cases c_back : r.back = 0
  case neg =>
    have y_back := hid c_back
    have p_back : (r.back == 0) = false := beq_eq_false_iff_ne.2 c_back
    have q_back : (r.back != 0) = true := bne_iff_ne.2 c_back
    clear c_back
    go_wp2
    go_ret
    exact ⟨ret_bool (by rw [HV.out]), (New.refl w).alloc _ _⟩
  have y_back := hid c_back
  have p_back : (r.back == 0) = true := beq_iff_eq.2 c_back
  have q_back : (r.back != 0) = false := by rw [c_back]; rfl
  clear c_back
  by_cases c_next : r.next = 0
  case neg =>
    have y_next := hid c_next
    have p_next : (r.next == 0) = false := beq_eq_false_iff_ne.2 c_next
    have q_next : (r.next != 0) = true := bne_iff_ne.2 c_next
    clear c_next
    go_wp2
    go_ret
    exact ⟨ret_bool (by rw [HV.out]), (New.refl w).alloc _ _⟩
  have y_next := hid c_next
  have p_next : (r.next == 0) = true := beq_iff_eq.2 c_next
  have q_next : (r.next != 0) = false := by rw [c_next]; rfl
  clear c_next
  go_wp2
  go_ret
  exact ⟨ret_bool (by rw [HV.out]), (New.refl w).alloc _ _⟩
end Go.Proofs.Ytmchbciofdokfaa

namespace Go.Proofs.Ytmchbciofdokfaa
open Go.RowKit

def RecIs (r : Rec) (w : World) (e : Ending) (w' : World) : Prop := e = .returned (.bool (validB r)) ∧ New w w'
theorem refRec_any (r : Rec) (bv av uv : Value) (w : World) (h : RecAt w r bv av uv) : Calls Try.prog 44 #[.agg (recCells r bv av uv)] w (RecIs r w) := by
  by_cases h1 : r.kind = 1
  · exact refRec_1 r bv av uv w h h1
  by_cases h2 : r.kind = 2
  · exact refRec_2 r bv av uv w h h2
  by_cases h3 : r.kind = 3
  · exact refRec_3 r bv av uv w h h3
  by_cases h4 : r.kind = 4
  · exact refRec_4 r bv av uv w h h4
  by_cases h5 : r.kind = 5
  · exact refRec_5 r bv av uv w h h5
  by_cases h6 : r.kind = 6
  · exact refRec_6 r bv av uv w h h6
  by_cases h7 : r.kind = 7
  · exact refRec_7 r bv av uv w h h7
  exact refRec_no r bv av uv w h (by simpa using h1) (by simpa using h2) (by simpa using h3) (by simpa using h4) (by simpa using h5) (by simpa using h6) (by simpa using h7)
end Go.Proofs.Ytmchbciofdokfaa
