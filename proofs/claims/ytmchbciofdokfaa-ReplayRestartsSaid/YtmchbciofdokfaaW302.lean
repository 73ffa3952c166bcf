/- progenyref06.isRecord: which records are. -/
import Derived.Test.YtmchbciofdokfaaW29
namespace Go.Proofs.Ytmchbciofdokfaa
open Go.RowKit
set_option linter.unusedSimpArgs false
set_option linter.unusedVariables false


set_option maxHeartbeats 8000000 in
set_option maxRecDepth 100000 in
theorem refRec_2 (r : Rec) (bv av uv : Value) (w : World) (h : RecAt w r bv av uv) (hk : r.kind = 2) :
    Calls Try.prog 44 #[.agg (recCells r bv av uv)] w fun e w' => e = .returned (.bool (validB r)) ∧ New w w' := by
  obtain ⟨⟨bp, bc, rfl, b1, b2, _⟩, ⟨ap, ac, rfl, a1, a2, _⟩, ⟨up, uc, rfl, l1, l2, _⟩⟩ := h
  unfold maxLen at a2 b2 l2
  have HV : Hid (validB r = (wi 0 r.unit 1000000 && (placeB r && nf r && wi 0 r.back 1000000 && wi 0 r.next 1000000 && nu r && nt r))) := hid (by simp [validB, hk])
  have HC : (recCells r (Value.slice bp r.before.size bc) (Value.slice ap r.after.size ac) (Value.slice up r.units.length uc)) = #[.int .i64 2, .int .i64 r.unit, .int .i64 r.page, .int .i64 r.at_, Value.slice bp r.before.size bc, Value.slice ap r.after.size ac, .int .i64 r.back, .int .i64 r.next, .string r.text, Value.slice up r.units.length uc] := by unfold recCells; rw [hk]
  rw [HC]
  clear HC hk
  by_cases e1 : wi 0 r.unit 1000000 = true
  case neg =>
    have e1 : wi 0 r.unit 1000000 = false := by simpa using e1
    go_enter Try.func44, Try.ntmps44
    go_wp2_with fail
    refine (refNum_any _ _).mono ?_
    rintro e w' ⟨rfl, rfl⟩
    rw [e1]
    go_wp2
    go_ret
    exact ⟨ret_bool (by rw [HV.out, e1]; rfl), (New.refl w).alloc _ _⟩
  go_enter Try.func44, Try.ntmps44
  go_wp2_with fail
  refine (refNum_any _ _).mono ?_
  rintro e w' ⟨rfl, rfl⟩
  rw [e1]
  have HV2 : Hid (validB r = (placeB r && nf r && wi 0 r.back 1000000 && wi 0 r.next 1000000 && nu r && nt r)) := hid (by rw [HV.out, e1]; rfl)
  obtain ⟨P, e2⟩ : ∃ P, placeB r = P := ⟨_, rfl⟩
  obtain ⟨B, e3⟩ : ∃ B, wi 0 r.back 1000000 = B := ⟨_, rfl⟩
  obtain ⟨N, e4⟩ : ∃ N, wi 0 r.next 1000000 = N := ⟨_, rfl⟩
  cases P
  case false =>
    by_cases c_before : r.before.size = 0
    case neg =>
      have y_before := hid c_before
      have p_before : decide (0 < r.before.size) = true := decide_eq_true (by omega)
      have s_before : ((r.before.size : Int) == 0) = false := beq_eq_false_iff_ne.2 (by omega)
      clear c_before
      by_cases c_back : r.back = 0
      case neg =>
        have y_back := hid c_back
        have p_back : (r.back == 0) = false := beq_eq_false_iff_ne.2 c_back
        have q_back : (r.back != 0) = true := bne_iff_ne.2 c_back
        clear c_back
        go_wp2_with fail
        refine (refPlace_any _ _ _ _).mono ?_
        rintro e w' ⟨rfl, rfl⟩
        rw [placeN_is, e2]
        go_wp2
        go_ret
        refine ⟨ret_bool ?_, (New.refl w).alloc _ _⟩
        rw [HV2.out]
        simp only [e2, e3, e4, nf, y_before.out, decide_true, decide_false, Bool.and_true, Bool.and_false, Bool.false_and, Bool.true_and]
      have y_back := hid c_back
      have p_back : (r.back == 0) = true := beq_iff_eq.2 c_back
      have q_back : (r.back != 0) = false := by rw [c_back]; rfl
      clear c_back
      by_cases c_next : r.next = 0
      case neg =>
        have y_next := hid c_next
        have p_next : (r.next == 0) = false := beq_eq_false_iff_ne.2 c_next
        have q_next : (r.next != 0) = true := bne_iff_ne.2 c_next
        clear c_next
        go_wp2_with fail
        refine (refPlace_any _ _ _ _).mono ?_
        rintro e w' ⟨rfl, rfl⟩
        rw [placeN_is, e2]
        go_wp2
        go_ret
        refine ⟨ret_bool ?_, (New.refl w).alloc _ _⟩
        rw [HV2.out]
        simp only [e2, e3, e4, nf, y_before.out, decide_true, decide_false, Bool.and_true, Bool.and_false, Bool.false_and, Bool.true_and]
      have y_next := hid c_next
      have p_next : (r.next == 0) = true := beq_iff_eq.2 c_next
      have q_next : (r.next != 0) = false := by rw [c_next]; rfl
      clear c_next
      go_wp2_with fail
      refine (refPlace_any _ _ _ _).mono ?_
      rintro e w' ⟨rfl, rfl⟩
      rw [placeN_is, e2]
      go_wp2
      go_ret
      refine ⟨ret_bool ?_, (New.refl w).alloc _ _⟩
      rw [HV2.out]
      simp only [e2, e3, e4, nf, y_before.out, decide_true, decide_false, Bool.and_true, Bool.and_false, Bool.false_and, Bool.true_and]
    have y_before := hid c_before
    have p_before : decide (0 < r.before.size) = false := decide_eq_false (by omega)
    have s_before : ((r.before.size : Int) == 0) = true := beq_iff_eq.2 (by omega)
    clear c_before
    by_cases c_after : r.after.size = 0
    case neg =>
      have y_after := hid c_after
      have p_after : decide (0 < r.after.size) = true := decide_eq_true (by omega)
      have s_after : ((r.after.size : Int) == 0) = false := beq_eq_false_iff_ne.2 (by omega)
      clear c_after
      by_cases c_back : r.back = 0
      case neg =>
        have y_back := hid c_back
        have p_back : (r.back == 0) = false := beq_eq_false_iff_ne.2 c_back
        have q_back : (r.back != 0) = true := bne_iff_ne.2 c_back
        clear c_back
        go_wp2_with fail
        refine (refPlace_any _ _ _ _).mono ?_
        rintro e w' ⟨rfl, rfl⟩
        rw [placeN_is, e2]
        go_wp2
        go_ret
        refine ⟨ret_bool ?_, (New.refl w).alloc _ _⟩
        rw [HV2.out]
        simp only [e2, e3, e4, nf, y_before.out, y_after.out, decide_true, decide_false, Bool.and_true, Bool.and_false, Bool.false_and, Bool.true_and]
      have y_back := hid c_back
      have p_back : (r.back == 0) = true := beq_iff_eq.2 c_back
      have q_back : (r.back != 0) = false := by rw [c_back]; rfl
      clear c_back
      by_cases c_next : r.next = 0
      case neg =>
        have y_next := hid c_next
        have p_next : (r.next == 0) = false := beq_eq_false_iff_ne.2 c_next
        have q_next : (r.next != 0) = true := bne_iff_ne.2 c_next
        clear c_next
        go_wp2_with fail
        refine (refPlace_any _ _ _ _).mono ?_
        rintro e w' ⟨rfl, rfl⟩
        rw [placeN_is, e2]
        go_wp2
        go_ret
        refine ⟨ret_bool ?_, (New.refl w).alloc _ _⟩
        rw [HV2.out]
        simp only [e2, e3, e4, nf, y_before.out, y_after.out, decide_true, decide_false, Bool.and_true, Bool.and_false, Bool.false_and, Bool.true_and]
      have y_next := hid c_next
      have p_next : (r.next == 0) = true := beq_iff_eq.2 c_next
      have q_next : (r.next != 0) = false := by rw [c_next]; rfl
      clear c_next
      go_wp2_with fail
      refine (refPlace_any _ _ _ _).mono ?_
      rintro e w' ⟨rfl, rfl⟩
      rw [placeN_is, e2]
      go_wp2
      go_ret
      refine ⟨ret_bool ?_, (New.refl w).alloc _ _⟩
      rw [HV2.out]
      simp only [e2, e3, e4, nf, y_before.out, y_after.out, decide_true, decide_false, Bool.and_true, Bool.and_false, Bool.false_and, Bool.true_and]
    have y_after := hid c_after
    have p_after : decide (0 < r.after.size) = false := decide_eq_false (by omega)
    have s_after : ((r.after.size : Int) == 0) = true := beq_iff_eq.2 (by omega)
    clear c_after
    by_cases c_page : r.page = 0
    case neg =>
      have y_page := hid c_page
      have p_page : (r.page == 0) = false := beq_eq_false_iff_ne.2 c_page
      have q_page : (r.page != 0) = true := bne_iff_ne.2 c_page
      clear c_page
      by_cases c_back : r.back = 0
      case neg =>
        have y_back := hid c_back
        have p_back : (r.back == 0) = false := beq_eq_false_iff_ne.2 c_back
        have q_back : (r.back != 0) = true := bne_iff_ne.2 c_back
        clear c_back
        go_wp2_with fail
        refine (refPlace_any _ _ _ _).mono ?_
        rintro e w' ⟨rfl, rfl⟩
        rw [placeN_is, e2]
        go_wp2
        go_ret
        refine ⟨ret_bool ?_, (New.refl w).alloc _ _⟩
        rw [HV2.out]
        simp only [e2, e3, e4, nf, y_before.out, y_after.out, decide_true, decide_false, Bool.and_true, Bool.and_false, Bool.false_and, Bool.true_and]
      have y_back := hid c_back
      have p_back : (r.back == 0) = true := beq_iff_eq.2 c_back
      have q_back : (r.back != 0) = false := by rw [c_back]; rfl
      clear c_back
      by_cases c_next : r.next = 0
      case neg =>
        have y_next := hid c_next
        have p_next : (r.next == 0) = false := beq_eq_false_iff_ne.2 c_next
        have q_next : (r.next != 0) = true := bne_iff_ne.2 c_next
        clear c_next
        go_wp2_with fail
        refine (refPlace_any _ _ _ _).mono ?_
        rintro e w' ⟨rfl, rfl⟩
        rw [placeN_is, e2]
        go_wp2
        go_ret
        refine ⟨ret_bool ?_, (New.refl w).alloc _ _⟩
        rw [HV2.out]
        simp only [e2, e3, e4, nf, y_before.out, y_after.out, decide_true, decide_false, Bool.and_true, Bool.and_false, Bool.false_and, Bool.true_and]
      have y_next := hid c_next
      have p_next : (r.next == 0) = true := beq_iff_eq.2 c_next
      have q_next : (r.next != 0) = false := by rw [c_next]; rfl
      clear c_next
      go_wp2_with fail
      refine (refPlace_any _ _ _ _).mono ?_
      rintro e w' ⟨rfl, rfl⟩
      rw [placeN_is, e2]
      go_wp2
      go_ret
      refine ⟨ret_bool ?_, (New.refl w).alloc _ _⟩
      rw [HV2.out]
      simp only [e2, e3, e4, nf, y_before.out, y_after.out, decide_true, decide_false, Bool.and_true, Bool.and_false, Bool.false_and, Bool.true_and]
    have y_page := hid c_page
    have p_page : (r.page == 0) = true := beq_iff_eq.2 c_page
    have q_page : (r.page != 0) = false := by rw [c_page]; rfl
    clear c_page
    by_cases c_at : r.at_ = 0
    case neg =>
      have y_at := hid c_at
      have p_at : (r.at_ == 0) = false := beq_eq_false_iff_ne.2 c_at
      have q_at : (r.at_ != 0) = true := bne_iff_ne.2 c_at
      clear c_at
      by_cases c_back : r.back = 0
      case neg =>
        have y_back := hid c_back
        have p_back : (r.back == 0) = false := beq_eq_false_iff_ne.2 c_back
        have q_back : (r.back != 0) = true := bne_iff_ne.2 c_back
        clear c_back
        go_wp2_with fail
        refine (refPlace_any _ _ _ _).mono ?_
        rintro e w' ⟨rfl, rfl⟩
        rw [placeN_is, e2]
        go_wp2
        go_ret
        refine ⟨ret_bool ?_, (New.refl w).alloc _ _⟩
        rw [HV2.out]
        simp only [e2, e3, e4, nf, y_before.out, y_after.out, decide_true, decide_false, Bool.and_true, Bool.and_false, Bool.false_and, Bool.true_and]
      have y_back := hid c_back
      have p_back : (r.back == 0) = true := beq_iff_eq.2 c_back
      have q_back : (r.back != 0) = false := by rw [c_back]; rfl
      clear c_back
      by_cases c_next : r.next = 0
      case neg =>
        have y_next := hid c_next
        have p_next : (r.next == 0) = false := beq_eq_false_iff_ne.2 c_next
        have q_next : (r.next != 0) = true := bne_iff_ne.2 c_next
        clear c_next
        go_wp2_with fail
        refine (refPlace_any _ _ _ _).mono ?_
        rintro e w' ⟨rfl, rfl⟩
        rw [placeN_is, e2]
        go_wp2
        go_ret
        refine ⟨ret_bool ?_, (New.refl w).alloc _ _⟩
        rw [HV2.out]
        simp only [e2, e3, e4, nf, y_before.out, y_after.out, decide_true, decide_false, Bool.and_true, Bool.and_false, Bool.false_and, Bool.true_and]
      have y_next := hid c_next
      have p_next : (r.next == 0) = true := beq_iff_eq.2 c_next
      have q_next : (r.next != 0) = false := by rw [c_next]; rfl
      clear c_next
      go_wp2_with fail
      refine (refPlace_any _ _ _ _).mono ?_
      rintro e w' ⟨rfl, rfl⟩
      rw [placeN_is, e2]
      go_wp2
      go_ret
      refine ⟨ret_bool ?_, (New.refl w).alloc _ _⟩
      rw [HV2.out]
      simp only [e2, e3, e4, nf, y_before.out, y_after.out, decide_true, decide_false, Bool.and_true, Bool.and_false, Bool.false_and, Bool.true_and]
    have y_at := hid c_at
    have p_at : (r.at_ == 0) = true := beq_iff_eq.2 c_at
    have q_at : (r.at_ != 0) = false := by rw [c_at]; rfl
    clear c_at
    by_cases c_back : r.back = 0
    case neg =>
      have y_back := hid c_back
      have p_back : (r.back == 0) = false := beq_eq_false_iff_ne.2 c_back
      have q_back : (r.back != 0) = true := bne_iff_ne.2 c_back
      clear c_back
      go_wp2_with fail
      refine (refPlace_any _ _ _ _).mono ?_
      rintro e w' ⟨rfl, rfl⟩
      rw [placeN_is, e2]
      go_wp2
      go_ret
      refine ⟨ret_bool ?_, (New.refl w).alloc _ _⟩
      rw [HV2.out]
      simp only [e2, e3, e4, nf, y_before.out, y_after.out, decide_true, decide_false, Bool.and_true, Bool.and_false, Bool.false_and, Bool.true_and]
    have y_back := hid c_back
    have p_back : (r.back == 0) = true := beq_iff_eq.2 c_back
    have q_back : (r.back != 0) = false := by rw [c_back]; rfl
    clear c_back
    by_cases c_next : r.next = 0
    case neg =>
      have y_next := hid c_next
      have p_next : (r.next == 0) = false := beq_eq_false_iff_ne.2 c_next
      have q_next : (r.next != 0) = true := bne_iff_ne.2 c_next
      clear c_next
      go_wp2_with fail
      refine (refPlace_any _ _ _ _).mono ?_
      rintro e w' ⟨rfl, rfl⟩
      rw [placeN_is, e2]
      go_wp2
      go_ret
      refine ⟨ret_bool ?_, (New.refl w).alloc _ _⟩
      rw [HV2.out]
      simp only [e2, e3, e4, nf, y_before.out, y_after.out, decide_true, decide_false, Bool.and_true, Bool.and_false, Bool.false_and, Bool.true_and]
    have y_next := hid c_next
    have p_next : (r.next == 0) = true := beq_iff_eq.2 c_next
    have q_next : (r.next != 0) = false := by rw [c_next]; rfl
    clear c_next
    go_wp2_with fail
    refine (refPlace_any _ _ _ _).mono ?_
    rintro e w' ⟨rfl, rfl⟩
    rw [placeN_is, e2]
    go_wp2
    go_ret
    refine ⟨ret_bool ?_, (New.refl w).alloc _ _⟩
    rw [HV2.out]
    simp only [e2, e3, e4, nf, y_before.out, y_after.out, decide_true, decide_false, Bool.and_true, Bool.and_false, Bool.false_and, Bool.true_and]
  cases B
  case false =>
    by_cases c_before : r.before.size = 0
    case neg =>
      have y_before := hid c_before
      have p_before : decide (0 < r.before.size) = true := decide_eq_true (by omega)
      have s_before : ((r.before.size : Int) == 0) = false := beq_eq_false_iff_ne.2 (by omega)
      clear c_before
      by_cases c_back : r.back = 0
      case neg =>
        have y_back := hid c_back
        have p_back : (r.back == 0) = false := beq_eq_false_iff_ne.2 c_back
        have q_back : (r.back != 0) = true := bne_iff_ne.2 c_back
        clear c_back
        go_wp2_with fail
        refine (refPlace_any _ _ _ _).mono ?_
        rintro e w' ⟨rfl, rfl⟩
        rw [placeN_is, e2]
        go_wp2
        go_ret
        refine ⟨ret_bool ?_, (New.refl w).alloc _ _⟩
        rw [HV2.out]
        simp only [e2, e3, e4, nf, y_before.out, decide_true, decide_false, Bool.and_true, Bool.and_false, Bool.false_and, Bool.true_and]
      have y_back := hid c_back
      have p_back : (r.back == 0) = true := beq_iff_eq.2 c_back
      have q_back : (r.back != 0) = false := by rw [c_back]; rfl
      clear c_back
      by_cases c_next : r.next = 0
      case neg =>
        have y_next := hid c_next
        have p_next : (r.next == 0) = false := beq_eq_false_iff_ne.2 c_next
        have q_next : (r.next != 0) = true := bne_iff_ne.2 c_next
        clear c_next
        go_wp2_with fail
        refine (refPlace_any _ _ _ _).mono ?_
        rintro e w' ⟨rfl, rfl⟩
        rw [placeN_is, e2]
        go_wp2
        go_ret
        refine ⟨ret_bool ?_, (New.refl w).alloc _ _⟩
        rw [HV2.out]
        simp only [e2, e3, e4, nf, y_before.out, decide_true, decide_false, Bool.and_true, Bool.and_false, Bool.false_and, Bool.true_and]
      have y_next := hid c_next
      have p_next : (r.next == 0) = true := beq_iff_eq.2 c_next
      have q_next : (r.next != 0) = false := by rw [c_next]; rfl
      clear c_next
      go_wp2_with fail
      refine (refPlace_any _ _ _ _).mono ?_
      rintro e w' ⟨rfl, rfl⟩
      rw [placeN_is, e2]
      go_wp2
      go_ret
      refine ⟨ret_bool ?_, (New.refl w).alloc _ _⟩
      rw [HV2.out]
      simp only [e2, e3, e4, nf, y_before.out, decide_true, decide_false, Bool.and_true, Bool.and_false, Bool.false_and, Bool.true_and]
    have y_before := hid c_before
    have p_before : decide (0 < r.before.size) = false := decide_eq_false (by omega)
    have s_before : ((r.before.size : Int) == 0) = true := beq_iff_eq.2 (by omega)
    clear c_before
    by_cases c_after : r.after.size = 0
    case neg =>
      have y_after := hid c_after
      have p_after : decide (0 < r.after.size) = true := decide_eq_true (by omega)
      have s_after : ((r.after.size : Int) == 0) = false := beq_eq_false_iff_ne.2 (by omega)
      clear c_after
      by_cases c_back : r.back = 0
      case neg =>
        have y_back := hid c_back
        have p_back : (r.back == 0) = false := beq_eq_false_iff_ne.2 c_back
        have q_back : (r.back != 0) = true := bne_iff_ne.2 c_back
        clear c_back
        go_wp2_with fail
        refine (refPlace_any _ _ _ _).mono ?_
        rintro e w' ⟨rfl, rfl⟩
        rw [placeN_is, e2]
        go_wp2_with fail
        refine (refNum_any _ _).mono ?_
        rintro e w' ⟨rfl, rfl⟩
        rw [e3]
        go_wp2
        go_ret
        refine ⟨ret_bool ?_, (New.refl w).alloc _ _⟩
        rw [HV2.out]
        simp only [e2, e3, e4, nf, y_before.out, y_after.out, decide_true, decide_false, Bool.and_true, Bool.and_false, Bool.false_and, Bool.true_and]
      have y_back := hid c_back
      have p_back : (r.back == 0) = true := beq_iff_eq.2 c_back
      have q_back : (r.back != 0) = false := by rw [c_back]; rfl
      clear c_back
      by_cases c_next : r.next = 0
      case neg =>
        have y_next := hid c_next
        have p_next : (r.next == 0) = false := beq_eq_false_iff_ne.2 c_next
        have q_next : (r.next != 0) = true := bne_iff_ne.2 c_next
        clear c_next
        go_wp2_with fail
        refine (refPlace_any _ _ _ _).mono ?_
        rintro e w' ⟨rfl, rfl⟩
        rw [placeN_is, e2]
        go_wp2_with fail
        refine (refNum_any _ _).mono ?_
        rintro e w' ⟨rfl, rfl⟩
        rw [e3]
        go_wp2
        go_ret
        refine ⟨ret_bool ?_, (New.refl w).alloc _ _⟩
        rw [HV2.out]
        simp only [e2, e3, e4, nf, y_before.out, y_after.out, decide_true, decide_false, Bool.and_true, Bool.and_false, Bool.false_and, Bool.true_and]
      have y_next := hid c_next
      have p_next : (r.next == 0) = true := beq_iff_eq.2 c_next
      have q_next : (r.next != 0) = false := by rw [c_next]; rfl
      clear c_next
      go_wp2_with fail
      refine (refPlace_any _ _ _ _).mono ?_
      rintro e w' ⟨rfl, rfl⟩
      rw [placeN_is, e2]
      go_wp2_with fail
      refine (refNum_any _ _).mono ?_
      rintro e w' ⟨rfl, rfl⟩
      rw [e3]
      go_wp2
      go_ret
      refine ⟨ret_bool ?_, (New.refl w).alloc _ _⟩
      rw [HV2.out]
      simp only [e2, e3, e4, nf, y_before.out, y_after.out, decide_true, decide_false, Bool.and_true, Bool.and_false, Bool.false_and, Bool.true_and]
    have y_after := hid c_after
    have p_after : decide (0 < r.after.size) = false := decide_eq_false (by omega)
    have s_after : ((r.after.size : Int) == 0) = true := beq_iff_eq.2 (by omega)
    clear c_after
    by_cases c_page : r.page = 0
    case neg =>
      have y_page := hid c_page
      have p_page : (r.page == 0) = false := beq_eq_false_iff_ne.2 c_page
      have q_page : (r.page != 0) = true := bne_iff_ne.2 c_page
      clear c_page
      by_cases c_back : r.back = 0
      case neg =>
        have y_back := hid c_back
        have p_back : (r.back == 0) = false := beq_eq_false_iff_ne.2 c_back
        have q_back : (r.back != 0) = true := bne_iff_ne.2 c_back
        clear c_back
        go_wp2_with fail
        refine (refPlace_any _ _ _ _).mono ?_
        rintro e w' ⟨rfl, rfl⟩
        rw [placeN_is, e2]
        go_wp2_with fail
        refine (refNum_any _ _).mono ?_
        rintro e w' ⟨rfl, rfl⟩
        rw [e3]
        go_wp2
        go_ret
        refine ⟨ret_bool ?_, (New.refl w).alloc _ _⟩
        rw [HV2.out]
        simp only [e2, e3, e4, nf, y_before.out, y_after.out, decide_true, decide_false, Bool.and_true, Bool.and_false, Bool.false_and, Bool.true_and]
      have y_back := hid c_back
      have p_back : (r.back == 0) = true := beq_iff_eq.2 c_back
      have q_back : (r.back != 0) = false := by rw [c_back]; rfl
      clear c_back
      by_cases c_next : r.next = 0
      case neg =>
        have y_next := hid c_next
        have p_next : (r.next == 0) = false := beq_eq_false_iff_ne.2 c_next
        have q_next : (r.next != 0) = true := bne_iff_ne.2 c_next
        clear c_next
        go_wp2_with fail
        refine (refPlace_any _ _ _ _).mono ?_
        rintro e w' ⟨rfl, rfl⟩
        rw [placeN_is, e2]
        go_wp2_with fail
        refine (refNum_any _ _).mono ?_
        rintro e w' ⟨rfl, rfl⟩
        rw [e3]
        go_wp2
        go_ret
        refine ⟨ret_bool ?_, (New.refl w).alloc _ _⟩
        rw [HV2.out]
        simp only [e2, e3, e4, nf, y_before.out, y_after.out, decide_true, decide_false, Bool.and_true, Bool.and_false, Bool.false_and, Bool.true_and]
      have y_next := hid c_next
      have p_next : (r.next == 0) = true := beq_iff_eq.2 c_next
      have q_next : (r.next != 0) = false := by rw [c_next]; rfl
      clear c_next
      go_wp2_with fail
      refine (refPlace_any _ _ _ _).mono ?_
      rintro e w' ⟨rfl, rfl⟩
      rw [placeN_is, e2]
      go_wp2_with fail
      refine (refNum_any _ _).mono ?_
      rintro e w' ⟨rfl, rfl⟩
      rw [e3]
      go_wp2
      go_ret
      refine ⟨ret_bool ?_, (New.refl w).alloc _ _⟩
      rw [HV2.out]
      simp only [e2, e3, e4, nf, y_before.out, y_after.out, decide_true, decide_false, Bool.and_true, Bool.and_false, Bool.false_and, Bool.true_and]
    have y_page := hid c_page
    have p_page : (r.page == 0) = true := beq_iff_eq.2 c_page
    have q_page : (r.page != 0) = false := by rw [c_page]; rfl
    clear c_page
    by_cases c_at : r.at_ = 0
    case neg =>
      have y_at := hid c_at
      have p_at : (r.at_ == 0) = false := beq_eq_false_iff_ne.2 c_at
      have q_at : (r.at_ != 0) = true := bne_iff_ne.2 c_at
      clear c_at
      by_cases c_back : r.back = 0
      case neg =>
        have y_back := hid c_back
        have p_back : (r.back == 0) = false := beq_eq_false_iff_ne.2 c_back
        have q_back : (r.back != 0) = true := bne_iff_ne.2 c_back
        clear c_back
        go_wp2_with fail
        refine (refPlace_any _ _ _ _).mono ?_
        rintro e w' ⟨rfl, rfl⟩
        rw [placeN_is, e2]
        go_wp2_with fail
        refine (refNum_any _ _).mono ?_
        rintro e w' ⟨rfl, rfl⟩
        rw [e3]
        go_wp2
        go_ret
        refine ⟨ret_bool ?_, (New.refl w).alloc _ _⟩
        rw [HV2.out]
        simp only [e2, e3, e4, nf, y_before.out, y_after.out, decide_true, decide_false, Bool.and_true, Bool.and_false, Bool.false_and, Bool.true_and]
      have y_back := hid c_back
      have p_back : (r.back == 0) = true := beq_iff_eq.2 c_back
      have q_back : (r.back != 0) = false := by rw [c_back]; rfl
      clear c_back
      by_cases c_next : r.next = 0
      case neg =>
        have y_next := hid c_next
        have p_next : (r.next == 0) = false := beq_eq_false_iff_ne.2 c_next
        have q_next : (r.next != 0) = true := bne_iff_ne.2 c_next
        clear c_next
        go_wp2_with fail
        refine (refPlace_any _ _ _ _).mono ?_
        rintro e w' ⟨rfl, rfl⟩
        rw [placeN_is, e2]
        go_wp2_with fail
        refine (refNum_any _ _).mono ?_
        rintro e w' ⟨rfl, rfl⟩
        rw [e3]
        go_wp2
        go_ret
        refine ⟨ret_bool ?_, (New.refl w).alloc _ _⟩
        rw [HV2.out]
        simp only [e2, e3, e4, nf, y_before.out, y_after.out, decide_true, decide_false, Bool.and_true, Bool.and_false, Bool.false_and, Bool.true_and]
      have y_next := hid c_next
      have p_next : (r.next == 0) = true := beq_iff_eq.2 c_next
      have q_next : (r.next != 0) = false := by rw [c_next]; rfl
      clear c_next
      go_wp2_with fail
      refine (refPlace_any _ _ _ _).mono ?_
      rintro e w' ⟨rfl, rfl⟩
      rw [placeN_is, e2]
      go_wp2_with fail
      refine (refNum_any _ _).mono ?_
      rintro e w' ⟨rfl, rfl⟩
      rw [e3]
      go_wp2
      go_ret
      refine ⟨ret_bool ?_, (New.refl w).alloc _ _⟩
      rw [HV2.out]
      simp only [e2, e3, e4, nf, y_before.out, y_after.out, decide_true, decide_false, Bool.and_true, Bool.and_false, Bool.false_and, Bool.true_and]
    have y_at := hid c_at
    have p_at : (r.at_ == 0) = true := beq_iff_eq.2 c_at
    have q_at : (r.at_ != 0) = false := by rw [c_at]; rfl
    clear c_at
    by_cases c_back : r.back = 0
    case neg =>
      have y_back := hid c_back
      have p_back : (r.back == 0) = false := beq_eq_false_iff_ne.2 c_back
      have q_back : (r.back != 0) = true := bne_iff_ne.2 c_back
      clear c_back
      go_wp2_with fail
      refine (refPlace_any _ _ _ _).mono ?_
      rintro e w' ⟨rfl, rfl⟩
      rw [placeN_is, e2]
      go_wp2_with fail
      refine (refNum_any _ _).mono ?_
      rintro e w' ⟨rfl, rfl⟩
      rw [e3]
      go_wp2
      go_ret
      refine ⟨ret_bool ?_, (New.refl w).alloc _ _⟩
      rw [HV2.out]
      simp only [e2, e3, e4, nf, y_before.out, y_after.out, decide_true, decide_false, Bool.and_true, Bool.and_false, Bool.false_and, Bool.true_and]
    have y_back := hid c_back
    have p_back : (r.back == 0) = true := beq_iff_eq.2 c_back
    have q_back : (r.back != 0) = false := by rw [c_back]; rfl
    clear c_back
    by_cases c_next : r.next = 0
    case neg =>
      have y_next := hid c_next
      have p_next : (r.next == 0) = false := beq_eq_false_iff_ne.2 c_next
      have q_next : (r.next != 0) = true := bne_iff_ne.2 c_next
      clear c_next
      go_wp2_with fail
      refine (refPlace_any _ _ _ _).mono ?_
      rintro e w' ⟨rfl, rfl⟩
      rw [placeN_is, e2]
      go_wp2_with fail
      refine (refNum_any _ _).mono ?_
      rintro e w' ⟨rfl, rfl⟩
      rw [e3]
      go_wp2
      go_ret
      refine ⟨ret_bool ?_, (New.refl w).alloc _ _⟩
      rw [HV2.out]
      simp only [e2, e3, e4, nf, y_before.out, y_after.out, decide_true, decide_false, Bool.and_true, Bool.and_false, Bool.false_and, Bool.true_and]
    have y_next := hid c_next
    have p_next : (r.next == 0) = true := beq_iff_eq.2 c_next
    have q_next : (r.next != 0) = false := by rw [c_next]; rfl
    clear c_next
    go_wp2_with fail
    refine (refPlace_any _ _ _ _).mono ?_
    rintro e w' ⟨rfl, rfl⟩
    rw [placeN_is, e2]
    go_wp2_with fail
    refine (refNum_any _ _).mono ?_
    rintro e w' ⟨rfl, rfl⟩
    rw [e3]
    go_wp2
    go_ret
    refine ⟨ret_bool ?_, (New.refl w).alloc _ _⟩
    rw [HV2.out]
    simp only [e2, e3, e4, nf, y_before.out, y_after.out, decide_true, decide_false, Bool.and_true, Bool.and_false, Bool.false_and, Bool.true_and]
  cases N
  case false =>
    by_cases c_before : r.before.size = 0
    case neg =>
      have y_before := hid c_before
      have p_before : decide (0 < r.before.size) = true := decide_eq_true (by omega)
      have s_before : ((r.before.size : Int) == 0) = false := beq_eq_false_iff_ne.2 (by omega)
      clear c_before
      by_cases c_back : r.back = 0
      case neg =>
        have y_back := hid c_back
        have p_back : (r.back == 0) = false := beq_eq_false_iff_ne.2 c_back
        have q_back : (r.back != 0) = true := bne_iff_ne.2 c_back
        clear c_back
        go_wp2_with fail
        refine (refPlace_any _ _ _ _).mono ?_
        rintro e w' ⟨rfl, rfl⟩
        rw [placeN_is, e2]
        go_wp2
        go_ret
        refine ⟨ret_bool ?_, (New.refl w).alloc _ _⟩
        rw [HV2.out]
        simp only [e2, e3, e4, nf, y_before.out, decide_true, decide_false, Bool.and_true, Bool.and_false, Bool.false_and, Bool.true_and]
      have y_back := hid c_back
      have p_back : (r.back == 0) = true := beq_iff_eq.2 c_back
      have q_back : (r.back != 0) = false := by rw [c_back]; rfl
      clear c_back
      by_cases c_next : r.next = 0
      case neg =>
        have y_next := hid c_next
        have p_next : (r.next == 0) = false := beq_eq_false_iff_ne.2 c_next
        have q_next : (r.next != 0) = true := bne_iff_ne.2 c_next
        clear c_next
        go_wp2_with fail
        refine (refPlace_any _ _ _ _).mono ?_
        rintro e w' ⟨rfl, rfl⟩
        rw [placeN_is, e2]
        go_wp2
        go_ret
        refine ⟨ret_bool ?_, (New.refl w).alloc _ _⟩
        rw [HV2.out]
        simp only [e2, e3, e4, nf, y_before.out, decide_true, decide_false, Bool.and_true, Bool.and_false, Bool.false_and, Bool.true_and]
      have y_next := hid c_next
      have p_next : (r.next == 0) = true := beq_iff_eq.2 c_next
      have q_next : (r.next != 0) = false := by rw [c_next]; rfl
      clear c_next
      go_wp2_with fail
      refine (refPlace_any _ _ _ _).mono ?_
      rintro e w' ⟨rfl, rfl⟩
      rw [placeN_is, e2]
      go_wp2
      go_ret
      refine ⟨ret_bool ?_, (New.refl w).alloc _ _⟩
      rw [HV2.out]
      simp only [e2, e3, e4, nf, y_before.out, decide_true, decide_false, Bool.and_true, Bool.and_false, Bool.false_and, Bool.true_and]
    have y_before := hid c_before
    have p_before : decide (0 < r.before.size) = false := decide_eq_false (by omega)
    have s_before : ((r.before.size : Int) == 0) = true := beq_iff_eq.2 (by omega)
    clear c_before
    by_cases c_after : r.after.size = 0
    case neg =>
      have y_after := hid c_after
      have p_after : decide (0 < r.after.size) = true := decide_eq_true (by omega)
      have s_after : ((r.after.size : Int) == 0) = false := beq_eq_false_iff_ne.2 (by omega)
      clear c_after
      by_cases c_back : r.back = 0
      case neg =>
        have y_back := hid c_back
        have p_back : (r.back == 0) = false := beq_eq_false_iff_ne.2 c_back
        have q_back : (r.back != 0) = true := bne_iff_ne.2 c_back
        clear c_back
        go_wp2_with fail
        refine (refPlace_any _ _ _ _).mono ?_
        rintro e w' ⟨rfl, rfl⟩
        rw [placeN_is, e2]
        go_wp2_with fail
        refine (refNum_any _ _).mono ?_
        rintro e w' ⟨rfl, rfl⟩
        rw [e3]
        go_wp2_with fail
        refine (refNum_any _ _).mono ?_
        rintro e w' ⟨rfl, rfl⟩
        rw [e4]
        go_wp2
        go_ret
        refine ⟨ret_bool ?_, (New.refl w).alloc _ _⟩
        rw [HV2.out]
        simp only [e2, e3, e4, nf, y_before.out, y_after.out, decide_true, decide_false, Bool.and_true, Bool.and_false, Bool.false_and, Bool.true_and]
      have y_back := hid c_back
      have p_back : (r.back == 0) = true := beq_iff_eq.2 c_back
      have q_back : (r.back != 0) = false := by rw [c_back]; rfl
      clear c_back
      by_cases c_next : r.next = 0
      case neg =>
        have y_next := hid c_next
        have p_next : (r.next == 0) = false := beq_eq_false_iff_ne.2 c_next
        have q_next : (r.next != 0) = true := bne_iff_ne.2 c_next
        clear c_next
        go_wp2_with fail
        refine (refPlace_any _ _ _ _).mono ?_
        rintro e w' ⟨rfl, rfl⟩
        rw [placeN_is, e2]
        go_wp2_with fail
        refine (refNum_any _ _).mono ?_
        rintro e w' ⟨rfl, rfl⟩
        rw [e3]
        go_wp2_with fail
        refine (refNum_any _ _).mono ?_
        rintro e w' ⟨rfl, rfl⟩
        rw [e4]
        go_wp2
        go_ret
        refine ⟨ret_bool ?_, (New.refl w).alloc _ _⟩
        rw [HV2.out]
        simp only [e2, e3, e4, nf, y_before.out, y_after.out, decide_true, decide_false, Bool.and_true, Bool.and_false, Bool.false_and, Bool.true_and]
      have y_next := hid c_next
      have p_next : (r.next == 0) = true := beq_iff_eq.2 c_next
      have q_next : (r.next != 0) = false := by rw [c_next]; rfl
      clear c_next
      go_wp2_with fail
      refine (refPlace_any _ _ _ _).mono ?_
      rintro e w' ⟨rfl, rfl⟩
      rw [placeN_is, e2]
      go_wp2_with fail
      refine (refNum_any _ _).mono ?_
      rintro e w' ⟨rfl, rfl⟩
      rw [e3]
      go_wp2_with fail
      refine (refNum_any _ _).mono ?_
      rintro e w' ⟨rfl, rfl⟩
      rw [e4]
      go_wp2
      go_ret
      refine ⟨ret_bool ?_, (New.refl w).alloc _ _⟩
      rw [HV2.out]
      simp only [e2, e3, e4, nf, y_before.out, y_after.out, decide_true, decide_false, Bool.and_true, Bool.and_false, Bool.false_and, Bool.true_and]
    have y_after := hid c_after
    have p_after : decide (0 < r.after.size) = false := decide_eq_false (by omega)
    have s_after : ((r.after.size : Int) == 0) = true := beq_iff_eq.2 (by omega)
    clear c_after
    by_cases c_page : r.page = 0
    case neg =>
      have y_page := hid c_page
      have p_page : (r.page == 0) = false := beq_eq_false_iff_ne.2 c_page
      have q_page : (r.page != 0) = true := bne_iff_ne.2 c_page
      clear c_page
      by_cases c_back : r.back = 0
      case neg =>
        have y_back := hid c_back
        have p_back : (r.back == 0) = false := beq_eq_false_iff_ne.2 c_back
        have q_back : (r.back != 0) = true := bne_iff_ne.2 c_back
        clear c_back
        go_wp2_with fail
        refine (refPlace_any _ _ _ _).mono ?_
        rintro e w' ⟨rfl, rfl⟩
        rw [placeN_is, e2]
        go_wp2_with fail
        refine (refNum_any _ _).mono ?_
        rintro e w' ⟨rfl, rfl⟩
        rw [e3]
        go_wp2_with fail
        refine (refNum_any _ _).mono ?_
        rintro e w' ⟨rfl, rfl⟩
        rw [e4]
        go_wp2
        go_ret
        refine ⟨ret_bool ?_, (New.refl w).alloc _ _⟩
        rw [HV2.out]
        simp only [e2, e3, e4, nf, y_before.out, y_after.out, decide_true, decide_false, Bool.and_true, Bool.and_false, Bool.false_and, Bool.true_and]
      have y_back := hid c_back
      have p_back : (r.back == 0) = true := beq_iff_eq.2 c_back
      have q_back : (r.back != 0) = false := by rw [c_back]; rfl
      clear c_back
      by_cases c_next : r.next = 0
      case neg =>
        have y_next := hid c_next
        have p_next : (r.next == 0) = false := beq_eq_false_iff_ne.2 c_next
        have q_next : (r.next != 0) = true := bne_iff_ne.2 c_next
        clear c_next
        go_wp2_with fail
        refine (refPlace_any _ _ _ _).mono ?_
        rintro e w' ⟨rfl, rfl⟩
        rw [placeN_is, e2]
        go_wp2_with fail
        refine (refNum_any _ _).mono ?_
        rintro e w' ⟨rfl, rfl⟩
        rw [e3]
        go_wp2_with fail
        refine (refNum_any _ _).mono ?_
        rintro e w' ⟨rfl, rfl⟩
        rw [e4]
        go_wp2
        go_ret
        refine ⟨ret_bool ?_, (New.refl w).alloc _ _⟩
        rw [HV2.out]
        simp only [e2, e3, e4, nf, y_before.out, y_after.out, decide_true, decide_false, Bool.and_true, Bool.and_false, Bool.false_and, Bool.true_and]
      have y_next := hid c_next
      have p_next : (r.next == 0) = true := beq_iff_eq.2 c_next
      have q_next : (r.next != 0) = false := by rw [c_next]; rfl
      clear c_next
      go_wp2_with fail
      refine (refPlace_any _ _ _ _).mono ?_
      rintro e w' ⟨rfl, rfl⟩
      rw [placeN_is, e2]
      go_wp2_with fail
      refine (refNum_any _ _).mono ?_
      rintro e w' ⟨rfl, rfl⟩
      rw [e3]
      go_wp2_with fail
      refine (refNum_any _ _).mono ?_
      rintro e w' ⟨rfl, rfl⟩
      rw [e4]
      go_wp2
      go_ret
      refine ⟨ret_bool ?_, (New.refl w).alloc _ _⟩
      rw [HV2.out]
      simp only [e2, e3, e4, nf, y_before.out, y_after.out, decide_true, decide_false, Bool.and_true, Bool.and_false, Bool.false_and, Bool.true_and]
    have y_page := hid c_page
    have p_page : (r.page == 0) = true := beq_iff_eq.2 c_page
    have q_page : (r.page != 0) = false := by rw [c_page]; rfl
    clear c_page
    by_cases c_at : r.at_ = 0
    case neg =>
      have y_at := hid c_at
      have p_at : (r.at_ == 0) = false := beq_eq_false_iff_ne.2 c_at
      have q_at : (r.at_ != 0) = true := bne_iff_ne.2 c_at
      clear c_at
      by_cases c_back : r.back = 0
      case neg =>
        have y_back := hid c_back
        have p_back : (r.back == 0) = false := beq_eq_false_iff_ne.2 c_back
        have q_back : (r.back != 0) = true := bne_iff_ne.2 c_back
        clear c_back
        go_wp2_with fail
        refine (refPlace_any _ _ _ _).mono ?_
        rintro e w' ⟨rfl, rfl⟩
        rw [placeN_is, e2]
        go_wp2_with fail
        refine (refNum_any _ _).mono ?_
        rintro e w' ⟨rfl, rfl⟩
        rw [e3]
        go_wp2_with fail
        refine (refNum_any _ _).mono ?_
        rintro e w' ⟨rfl, rfl⟩
        rw [e4]
        go_wp2
        go_ret
        refine ⟨ret_bool ?_, (New.refl w).alloc _ _⟩
        rw [HV2.out]
        simp only [e2, e3, e4, nf, y_before.out, y_after.out, decide_true, decide_false, Bool.and_true, Bool.and_false, Bool.false_and, Bool.true_and]
      have y_back := hid c_back
      have p_back : (r.back == 0) = true := beq_iff_eq.2 c_back
      have q_back : (r.back != 0) = false := by rw [c_back]; rfl
      clear c_back
      by_cases c_next : r.next = 0
      case neg =>
        have y_next := hid c_next
        have p_next : (r.next == 0) = false := beq_eq_false_iff_ne.2 c_next
        have q_next : (r.next != 0) = true := bne_iff_ne.2 c_next
        clear c_next
        go_wp2_with fail
        refine (refPlace_any _ _ _ _).mono ?_
        rintro e w' ⟨rfl, rfl⟩
        rw [placeN_is, e2]
        go_wp2_with fail
        refine (refNum_any _ _).mono ?_
        rintro e w' ⟨rfl, rfl⟩
        rw [e3]
        go_wp2_with fail
        refine (refNum_any _ _).mono ?_
        rintro e w' ⟨rfl, rfl⟩
        rw [e4]
        go_wp2
        go_ret
        refine ⟨ret_bool ?_, (New.refl w).alloc _ _⟩
        rw [HV2.out]
        simp only [e2, e3, e4, nf, y_before.out, y_after.out, decide_true, decide_false, Bool.and_true, Bool.and_false, Bool.false_and, Bool.true_and]
      have y_next := hid c_next
      have p_next : (r.next == 0) = true := beq_iff_eq.2 c_next
      have q_next : (r.next != 0) = false := by rw [c_next]; rfl
      clear c_next
      go_wp2_with fail
      refine (refPlace_any _ _ _ _).mono ?_
      rintro e w' ⟨rfl, rfl⟩
      rw [placeN_is, e2]
      go_wp2_with fail
      refine (refNum_any _ _).mono ?_
      rintro e w' ⟨rfl, rfl⟩
      rw [e3]
      go_wp2_with fail
      refine (refNum_any _ _).mono ?_
      rintro e w' ⟨rfl, rfl⟩
      rw [e4]
      go_wp2
      go_ret
      refine ⟨ret_bool ?_, (New.refl w).alloc _ _⟩
      rw [HV2.out]
      simp only [e2, e3, e4, nf, y_before.out, y_after.out, decide_true, decide_false, Bool.and_true, Bool.and_false, Bool.false_and, Bool.true_and]
    have y_at := hid c_at
    have p_at : (r.at_ == 0) = true := beq_iff_eq.2 c_at
    have q_at : (r.at_ != 0) = false := by rw [c_at]; rfl
    clear c_at
    by_cases c_back : r.back = 0
    case neg =>
      have y_back := hid c_back
      have p_back : (r.back == 0) = false := beq_eq_false_iff_ne.2 c_back
      have q_back : (r.back != 0) = true := bne_iff_ne.2 c_back
      clear c_back
      go_wp2_with fail
      refine (refPlace_any _ _ _ _).mono ?_
      rintro e w' ⟨rfl, rfl⟩
      rw [placeN_is, e2]
      go_wp2_with fail
      refine (refNum_any _ _).mono ?_
      rintro e w' ⟨rfl, rfl⟩
      rw [e3]
      go_wp2_with fail
      refine (refNum_any _ _).mono ?_
      rintro e w' ⟨rfl, rfl⟩
      rw [e4]
      go_wp2
      go_ret
      refine ⟨ret_bool ?_, (New.refl w).alloc _ _⟩
      rw [HV2.out]
      simp only [e2, e3, e4, nf, y_before.out, y_after.out, decide_true, decide_false, Bool.and_true, Bool.and_false, Bool.false_and, Bool.true_and]
    have y_back := hid c_back
    have p_back : (r.back == 0) = true := beq_iff_eq.2 c_back
    have q_back : (r.back != 0) = false := by rw [c_back]; rfl
    clear c_back
    by_cases c_next : r.next = 0
    case neg =>
      have y_next := hid c_next
      have p_next : (r.next == 0) = false := beq_eq_false_iff_ne.2 c_next
      have q_next : (r.next != 0) = true := bne_iff_ne.2 c_next
      clear c_next
      go_wp2_with fail
      refine (refPlace_any _ _ _ _).mono ?_
      rintro e w' ⟨rfl, rfl⟩
      rw [placeN_is, e2]
      go_wp2_with fail
      refine (refNum_any _ _).mono ?_
      rintro e w' ⟨rfl, rfl⟩
      rw [e3]
      go_wp2_with fail
      refine (refNum_any _ _).mono ?_
      rintro e w' ⟨rfl, rfl⟩
      rw [e4]
      go_wp2
      go_ret
      refine ⟨ret_bool ?_, (New.refl w).alloc _ _⟩
      rw [HV2.out]
      simp only [e2, e3, e4, nf, y_before.out, y_after.out, decide_true, decide_false, Bool.and_true, Bool.and_false, Bool.false_and, Bool.true_and]
    have y_next := hid c_next
    have p_next : (r.next == 0) = true := beq_iff_eq.2 c_next
    have q_next : (r.next != 0) = false := by rw [c_next]; rfl
    clear c_next
    go_wp2_with fail
    refine (refPlace_any _ _ _ _).mono ?_
    rintro e w' ⟨rfl, rfl⟩
    rw [placeN_is, e2]
    go_wp2_with fail
    refine (refNum_any _ _).mono ?_
    rintro e w' ⟨rfl, rfl⟩
    rw [e3]
    go_wp2_with fail
    refine (refNum_any _ _).mono ?_
    rintro e w' ⟨rfl, rfl⟩
    rw [e4]
    go_wp2
    go_ret
    refine ⟨ret_bool ?_, (New.refl w).alloc _ _⟩
    rw [HV2.out]
    simp only [e2, e3, e4, nf, y_before.out, y_after.out, decide_true, decide_false, Bool.and_true, Bool.and_false, Bool.false_and, Bool.true_and]
  by_cases c_before : r.before.size = 0
  case neg =>
    have y_before := hid c_before
    have p_before : decide (0 < r.before.size) = true := decide_eq_true (by omega)
    have s_before : ((r.before.size : Int) == 0) = false := beq_eq_false_iff_ne.2 (by omega)
    clear c_before
    by_cases c_back : r.back = 0
    case neg =>
      have y_back := hid c_back
      have p_back : (r.back == 0) = false := beq_eq_false_iff_ne.2 c_back
      have q_back : (r.back != 0) = true := bne_iff_ne.2 c_back
      clear c_back
      go_wp2_with fail
      refine (refPlace_any _ _ _ _).mono ?_
      rintro e w' ⟨rfl, rfl⟩
      rw [placeN_is, e2]
      go_wp2
      go_ret
      refine ⟨ret_bool ?_, (New.refl w).alloc _ _⟩
      rw [HV2.out]
      simp only [e2, e3, e4, nf, y_before.out, decide_true, decide_false, Bool.and_true, Bool.and_false, Bool.false_and, Bool.true_and]
    have y_back := hid c_back
    have p_back : (r.back == 0) = true := beq_iff_eq.2 c_back
    have q_back : (r.back != 0) = false := by rw [c_back]; rfl
    clear c_back
    by_cases c_next : r.next = 0
    case neg =>
      have y_next := hid c_next
      have p_next : (r.next == 0) = false := beq_eq_false_iff_ne.2 c_next
      have q_next : (r.next != 0) = true := bne_iff_ne.2 c_next
      clear c_next
      go_wp2_with fail
      refine (refPlace_any _ _ _ _).mono ?_
      rintro e w' ⟨rfl, rfl⟩
      rw [placeN_is, e2]
      go_wp2
      go_ret
      refine ⟨ret_bool ?_, (New.refl w).alloc _ _⟩
      rw [HV2.out]
      simp only [e2, e3, e4, nf, y_before.out, decide_true, decide_false, Bool.and_true, Bool.and_false, Bool.false_and, Bool.true_and]
    have y_next := hid c_next
    have p_next : (r.next == 0) = true := beq_iff_eq.2 c_next
    have q_next : (r.next != 0) = false := by rw [c_next]; rfl
    clear c_next
    go_wp2_with fail
    refine (refPlace_any _ _ _ _).mono ?_
    rintro e w' ⟨rfl, rfl⟩
    rw [placeN_is, e2]
    go_wp2
    go_ret
    refine ⟨ret_bool ?_, (New.refl w).alloc _ _⟩
    rw [HV2.out]
    simp only [e2, e3, e4, nf, y_before.out, decide_true, decide_false, Bool.and_true, Bool.and_false, Bool.false_and, Bool.true_and]
  have y_before := hid c_before
  have p_before : decide (0 < r.before.size) = false := decide_eq_false (by omega)
  have s_before : ((r.before.size : Int) == 0) = true := beq_iff_eq.2 (by omega)
  clear c_before
  by_cases c_after : r.after.size = 0
  case neg =>
    have y_after := hid c_after
    have p_after : decide (0 < r.after.size) = true := decide_eq_true (by omega)
    have s_after : ((r.after.size : Int) == 0) = false := beq_eq_false_iff_ne.2 (by omega)
    clear c_after
    by_cases c_back : r.back = 0
    case neg =>
      have y_back := hid c_back
      have p_back : (r.back == 0) = false := beq_eq_false_iff_ne.2 c_back
      have q_back : (r.back != 0) = true := bne_iff_ne.2 c_back
      clear c_back
      go_wp2_with fail
      refine (refPlace_any _ _ _ _).mono ?_
      rintro e w' ⟨rfl, rfl⟩
      rw [placeN_is, e2]
      go_wp2_with fail
      refine (refNum_any _ _).mono ?_
      rintro e w' ⟨rfl, rfl⟩
      rw [e3]
      go_wp2_with fail
      refine (refNum_any _ _).mono ?_
      rintro e w' ⟨rfl, rfl⟩
      rw [e4]
      go_wp2
      all_goals go_ret
      all_goals refine ⟨ret_bool ?_, (New.refl w).alloc _ _⟩
      all_goals (rw [HV2.out]; simp only [e2, e3, e4, nf, nu, nt, y_before.out, y_after.out, decide_true, decide_false, Bool.and_true, Bool.and_false, Bool.false_and, Bool.true_and])
      all_goals have z_before := y_before.out
      all_goals have z_after := y_after.out
      all_goals first
        | done
        | rfl
        | ((have q := toList_nil.1 (by assumption : r.text.toList = [])); rw [Bool.eq_iff_iff]; simp only [beq_iff_eq, Bool.and_eq_true, decide_eq_true_eq, Bool.false_eq_true, false_iff]; omega)
        | ((have q : ¬ r.text.size = 0 := fun e => (by assumption : ¬ r.text.toList = []) (toList_nil.2 e)); rw [Bool.eq_iff_iff]; simp only [beq_iff_eq, Bool.and_eq_true, decide_eq_true_eq, Bool.false_eq_true, false_iff]; omega)
        | (rw [Bool.eq_iff_iff]; simp only [beq_iff_eq, Bool.and_eq_true, decide_eq_true_eq, Bool.false_eq_true, false_iff]; omega)

    have y_back := hid c_back
    have p_back : (r.back == 0) = true := beq_iff_eq.2 c_back
    have q_back : (r.back != 0) = false := by rw [c_back]; rfl
    clear c_back
    by_cases c_next : r.next = 0
    case neg =>
      have y_next := hid c_next
      have p_next : (r.next == 0) = false := beq_eq_false_iff_ne.2 c_next
      have q_next : (r.next != 0) = true := bne_iff_ne.2 c_next
      clear c_next
      go_wp2_with fail
      refine (refPlace_any _ _ _ _).mono ?_
      rintro e w' ⟨rfl, rfl⟩
      rw [placeN_is, e2]
      go_wp2_with fail
      refine (refNum_any _ _).mono ?_
      rintro e w' ⟨rfl, rfl⟩
      rw [e3]
      go_wp2_with fail
      refine (refNum_any _ _).mono ?_
      rintro e w' ⟨rfl, rfl⟩
      rw [e4]
      go_wp2
      all_goals go_ret
      all_goals refine ⟨ret_bool ?_, (New.refl w).alloc _ _⟩
      all_goals (rw [HV2.out]; simp only [e2, e3, e4, nf, nu, nt, y_before.out, y_after.out, decide_true, decide_false, Bool.and_true, Bool.and_false, Bool.false_and, Bool.true_and])
      all_goals have z_before := y_before.out
      all_goals have z_after := y_after.out
      all_goals first
        | done
        | rfl
        | ((have q := toList_nil.1 (by assumption : r.text.toList = [])); rw [Bool.eq_iff_iff]; simp only [beq_iff_eq, Bool.and_eq_true, decide_eq_true_eq, Bool.false_eq_true, false_iff]; omega)
        | ((have q : ¬ r.text.size = 0 := fun e => (by assumption : ¬ r.text.toList = []) (toList_nil.2 e)); rw [Bool.eq_iff_iff]; simp only [beq_iff_eq, Bool.and_eq_true, decide_eq_true_eq, Bool.false_eq_true, false_iff]; omega)
        | (rw [Bool.eq_iff_iff]; simp only [beq_iff_eq, Bool.and_eq_true, decide_eq_true_eq, Bool.false_eq_true, false_iff]; omega)

    have y_next := hid c_next
    have p_next : (r.next == 0) = true := beq_iff_eq.2 c_next
    have q_next : (r.next != 0) = false := by rw [c_next]; rfl
    clear c_next
    go_wp2_with fail
    refine (refPlace_any _ _ _ _).mono ?_
    rintro e w' ⟨rfl, rfl⟩
    rw [placeN_is, e2]
    go_wp2_with fail
    refine (refNum_any _ _).mono ?_
    rintro e w' ⟨rfl, rfl⟩
    rw [e3]
    go_wp2_with fail
    refine (refNum_any _ _).mono ?_
    rintro e w' ⟨rfl, rfl⟩
    rw [e4]
    go_wp2
    all_goals go_ret
    all_goals refine ⟨ret_bool ?_, (New.refl w).alloc _ _⟩
    all_goals (rw [HV2.out]; simp only [e2, e3, e4, nf, nu, nt, y_before.out, y_after.out, decide_true, decide_false, Bool.and_true, Bool.and_false, Bool.false_and, Bool.true_and])
    all_goals have z_before := y_before.out
    all_goals have z_after := y_after.out
    all_goals first
      | done
      | rfl
      | ((have q := toList_nil.1 (by assumption : r.text.toList = [])); rw [Bool.eq_iff_iff]; simp only [beq_iff_eq, Bool.and_eq_true, decide_eq_true_eq, Bool.false_eq_true, false_iff]; omega)
      | ((have q : ¬ r.text.size = 0 := fun e => (by assumption : ¬ r.text.toList = []) (toList_nil.2 e)); rw [Bool.eq_iff_iff]; simp only [beq_iff_eq, Bool.and_eq_true, decide_eq_true_eq, Bool.false_eq_true, false_iff]; omega)
      | (rw [Bool.eq_iff_iff]; simp only [beq_iff_eq, Bool.and_eq_true, decide_eq_true_eq, Bool.false_eq_true, false_iff]; omega)

  have y_after := hid c_after
  have p_after : decide (0 < r.after.size) = false := decide_eq_false (by omega)
  have s_after : ((r.after.size : Int) == 0) = true := beq_iff_eq.2 (by omega)
  clear c_after
  by_cases c_page : r.page = 0
  case neg =>
    have y_page := hid c_page
    have p_page : (r.page == 0) = false := beq_eq_false_iff_ne.2 c_page
    have q_page : (r.page != 0) = true := bne_iff_ne.2 c_page
    clear c_page
    by_cases c_back : r.back = 0
    case neg =>
      have y_back := hid c_back
      have p_back : (r.back == 0) = false := beq_eq_false_iff_ne.2 c_back
      have q_back : (r.back != 0) = true := bne_iff_ne.2 c_back
      clear c_back
      go_wp2_with fail
      refine (refPlace_any _ _ _ _).mono ?_
      rintro e w' ⟨rfl, rfl⟩
      rw [placeN_is, e2]
      go_wp2_with fail
      refine (refNum_any _ _).mono ?_
      rintro e w' ⟨rfl, rfl⟩
      rw [e3]
      go_wp2_with fail
      refine (refNum_any _ _).mono ?_
      rintro e w' ⟨rfl, rfl⟩
      rw [e4]
      go_wp2
      all_goals go_ret
      all_goals refine ⟨ret_bool ?_, (New.refl w).alloc _ _⟩
      all_goals (rw [HV2.out]; simp only [e2, e3, e4, nf, nu, nt, y_before.out, y_after.out, decide_true, decide_false, Bool.and_true, Bool.and_false, Bool.false_and, Bool.true_and])
      all_goals have z_before := y_before.out
      all_goals have z_after := y_after.out
      all_goals first
        | done
        | rfl
        | ((have q := toList_nil.1 (by assumption : r.text.toList = [])); rw [Bool.eq_iff_iff]; simp only [beq_iff_eq, Bool.and_eq_true, decide_eq_true_eq, Bool.false_eq_true, false_iff]; omega)
        | ((have q : ¬ r.text.size = 0 := fun e => (by assumption : ¬ r.text.toList = []) (toList_nil.2 e)); rw [Bool.eq_iff_iff]; simp only [beq_iff_eq, Bool.and_eq_true, decide_eq_true_eq, Bool.false_eq_true, false_iff]; omega)
        | (rw [Bool.eq_iff_iff]; simp only [beq_iff_eq, Bool.and_eq_true, decide_eq_true_eq, Bool.false_eq_true, false_iff]; omega)

    have y_back := hid c_back
    have p_back : (r.back == 0) = true := beq_iff_eq.2 c_back
    have q_back : (r.back != 0) = false := by rw [c_back]; rfl
    clear c_back
    by_cases c_next : r.next = 0
    case neg =>
      have y_next := hid c_next
      have p_next : (r.next == 0) = false := beq_eq_false_iff_ne.2 c_next
      have q_next : (r.next != 0) = true := bne_iff_ne.2 c_next
      clear c_next
      go_wp2_with fail
      refine (refPlace_any _ _ _ _).mono ?_
      rintro e w' ⟨rfl, rfl⟩
      rw [placeN_is, e2]
      go_wp2_with fail
      refine (refNum_any _ _).mono ?_
      rintro e w' ⟨rfl, rfl⟩
      rw [e3]
      go_wp2_with fail
      refine (refNum_any _ _).mono ?_
      rintro e w' ⟨rfl, rfl⟩
      rw [e4]
      go_wp2
      all_goals go_ret
      all_goals refine ⟨ret_bool ?_, (New.refl w).alloc _ _⟩
      all_goals (rw [HV2.out]; simp only [e2, e3, e4, nf, nu, nt, y_before.out, y_after.out, decide_true, decide_false, Bool.and_true, Bool.and_false, Bool.false_and, Bool.true_and])
      all_goals have z_before := y_before.out
      all_goals have z_after := y_after.out
      all_goals first
        | done
        | rfl
        | ((have q := toList_nil.1 (by assumption : r.text.toList = [])); rw [Bool.eq_iff_iff]; simp only [beq_iff_eq, Bool.and_eq_true, decide_eq_true_eq, Bool.false_eq_true, false_iff]; omega)
        | ((have q : ¬ r.text.size = 0 := fun e => (by assumption : ¬ r.text.toList = []) (toList_nil.2 e)); rw [Bool.eq_iff_iff]; simp only [beq_iff_eq, Bool.and_eq_true, decide_eq_true_eq, Bool.false_eq_true, false_iff]; omega)
        | (rw [Bool.eq_iff_iff]; simp only [beq_iff_eq, Bool.and_eq_true, decide_eq_true_eq, Bool.false_eq_true, false_iff]; omega)

    have y_next := hid c_next
    have p_next : (r.next == 0) = true := beq_iff_eq.2 c_next
    have q_next : (r.next != 0) = false := by rw [c_next]; rfl
    clear c_next
    go_wp2_with fail
    refine (refPlace_any _ _ _ _).mono ?_
    rintro e w' ⟨rfl, rfl⟩
    rw [placeN_is, e2]
    go_wp2_with fail
    refine (refNum_any _ _).mono ?_
    rintro e w' ⟨rfl, rfl⟩
    rw [e3]
    go_wp2_with fail
    refine (refNum_any _ _).mono ?_
    rintro e w' ⟨rfl, rfl⟩
    rw [e4]
    go_wp2
    all_goals go_ret
    all_goals refine ⟨ret_bool ?_, (New.refl w).alloc _ _⟩
    all_goals (rw [HV2.out]; simp only [e2, e3, e4, nf, nu, nt, y_before.out, y_after.out, decide_true, decide_false, Bool.and_true, Bool.and_false, Bool.false_and, Bool.true_and])
    all_goals have z_before := y_before.out
    all_goals have z_after := y_after.out
    all_goals first
      | done
      | rfl
      | ((have q := toList_nil.1 (by assumption : r.text.toList = [])); rw [Bool.eq_iff_iff]; simp only [beq_iff_eq, Bool.and_eq_true, decide_eq_true_eq, Bool.false_eq_true, false_iff]; omega)
      | ((have q : ¬ r.text.size = 0 := fun e => (by assumption : ¬ r.text.toList = []) (toList_nil.2 e)); rw [Bool.eq_iff_iff]; simp only [beq_iff_eq, Bool.and_eq_true, decide_eq_true_eq, Bool.false_eq_true, false_iff]; omega)
      | (rw [Bool.eq_iff_iff]; simp only [beq_iff_eq, Bool.and_eq_true, decide_eq_true_eq, Bool.false_eq_true, false_iff]; omega)

  have y_page := hid c_page
  have p_page : (r.page == 0) = true := beq_iff_eq.2 c_page
  have q_page : (r.page != 0) = false := by rw [c_page]; rfl
  clear c_page
  by_cases c_at : r.at_ = 0
  case neg =>
    have y_at := hid c_at
    have p_at : (r.at_ == 0) = false := beq_eq_false_iff_ne.2 c_at
    have q_at : (r.at_ != 0) = true := bne_iff_ne.2 c_at
    clear c_at
    by_cases c_back : r.back = 0
    case neg =>
      have y_back := hid c_back
      have p_back : (r.back == 0) = false := beq_eq_false_iff_ne.2 c_back
      have q_back : (r.back != 0) = true := bne_iff_ne.2 c_back
      clear c_back
      go_wp2_with fail
      refine (refPlace_any _ _ _ _).mono ?_
      rintro e w' ⟨rfl, rfl⟩
      rw [placeN_is, e2]
      go_wp2_with fail
      refine (refNum_any _ _).mono ?_
      rintro e w' ⟨rfl, rfl⟩
      rw [e3]
      go_wp2_with fail
      refine (refNum_any _ _).mono ?_
      rintro e w' ⟨rfl, rfl⟩
      rw [e4]
      go_wp2
      all_goals go_ret
      all_goals refine ⟨ret_bool ?_, (New.refl w).alloc _ _⟩
      all_goals (rw [HV2.out]; simp only [e2, e3, e4, nf, nu, nt, y_before.out, y_after.out, decide_true, decide_false, Bool.and_true, Bool.and_false, Bool.false_and, Bool.true_and])
      all_goals have z_before := y_before.out
      all_goals have z_after := y_after.out
      all_goals first
        | done
        | rfl
        | ((have q := toList_nil.1 (by assumption : r.text.toList = [])); rw [Bool.eq_iff_iff]; simp only [beq_iff_eq, Bool.and_eq_true, decide_eq_true_eq, Bool.false_eq_true, false_iff]; omega)
        | ((have q : ¬ r.text.size = 0 := fun e => (by assumption : ¬ r.text.toList = []) (toList_nil.2 e)); rw [Bool.eq_iff_iff]; simp only [beq_iff_eq, Bool.and_eq_true, decide_eq_true_eq, Bool.false_eq_true, false_iff]; omega)
        | (rw [Bool.eq_iff_iff]; simp only [beq_iff_eq, Bool.and_eq_true, decide_eq_true_eq, Bool.false_eq_true, false_iff]; omega)

    have y_back := hid c_back
    have p_back : (r.back == 0) = true := beq_iff_eq.2 c_back
    have q_back : (r.back != 0) = false := by rw [c_back]; rfl
    clear c_back
    by_cases c_next : r.next = 0
    case neg =>
      have y_next := hid c_next
      have p_next : (r.next == 0) = false := beq_eq_false_iff_ne.2 c_next
      have q_next : (r.next != 0) = true := bne_iff_ne.2 c_next
      clear c_next
      go_wp2_with fail
      refine (refPlace_any _ _ _ _).mono ?_
      rintro e w' ⟨rfl, rfl⟩
      rw [placeN_is, e2]
      go_wp2_with fail
      refine (refNum_any _ _).mono ?_
      rintro e w' ⟨rfl, rfl⟩
      rw [e3]
      go_wp2_with fail
      refine (refNum_any _ _).mono ?_
      rintro e w' ⟨rfl, rfl⟩
      rw [e4]
      go_wp2
      all_goals go_ret
      all_goals refine ⟨ret_bool ?_, (New.refl w).alloc _ _⟩
      all_goals (rw [HV2.out]; simp only [e2, e3, e4, nf, nu, nt, y_before.out, y_after.out, decide_true, decide_false, Bool.and_true, Bool.and_false, Bool.false_and, Bool.true_and])
      all_goals have z_before := y_before.out
      all_goals have z_after := y_after.out
      all_goals first
        | done
        | rfl
        | ((have q := toList_nil.1 (by assumption : r.text.toList = [])); rw [Bool.eq_iff_iff]; simp only [beq_iff_eq, Bool.and_eq_true, decide_eq_true_eq, Bool.false_eq_true, false_iff]; omega)
        | ((have q : ¬ r.text.size = 0 := fun e => (by assumption : ¬ r.text.toList = []) (toList_nil.2 e)); rw [Bool.eq_iff_iff]; simp only [beq_iff_eq, Bool.and_eq_true, decide_eq_true_eq, Bool.false_eq_true, false_iff]; omega)
        | (rw [Bool.eq_iff_iff]; simp only [beq_iff_eq, Bool.and_eq_true, decide_eq_true_eq, Bool.false_eq_true, false_iff]; omega)

    have y_next := hid c_next
    have p_next : (r.next == 0) = true := beq_iff_eq.2 c_next
    have q_next : (r.next != 0) = false := by rw [c_next]; rfl
    clear c_next
    go_wp2_with fail
    refine (refPlace_any _ _ _ _).mono ?_
    rintro e w' ⟨rfl, rfl⟩
    rw [placeN_is, e2]
    go_wp2_with fail
    refine (refNum_any _ _).mono ?_
    rintro e w' ⟨rfl, rfl⟩
    rw [e3]
    go_wp2_with fail
    refine (refNum_any _ _).mono ?_
    rintro e w' ⟨rfl, rfl⟩
    rw [e4]
    go_wp2
    all_goals go_ret
    all_goals refine ⟨ret_bool ?_, (New.refl w).alloc _ _⟩
    all_goals (rw [HV2.out]; simp only [e2, e3, e4, nf, nu, nt, y_before.out, y_after.out, decide_true, decide_false, Bool.and_true, Bool.and_false, Bool.false_and, Bool.true_and])
    all_goals have z_before := y_before.out
    all_goals have z_after := y_after.out
    all_goals first
      | done
      | rfl
      | ((have q := toList_nil.1 (by assumption : r.text.toList = [])); rw [Bool.eq_iff_iff]; simp only [beq_iff_eq, Bool.and_eq_true, decide_eq_true_eq, Bool.false_eq_true, false_iff]; omega)
      | ((have q : ¬ r.text.size = 0 := fun e => (by assumption : ¬ r.text.toList = []) (toList_nil.2 e)); rw [Bool.eq_iff_iff]; simp only [beq_iff_eq, Bool.and_eq_true, decide_eq_true_eq, Bool.false_eq_true, false_iff]; omega)
      | (rw [Bool.eq_iff_iff]; simp only [beq_iff_eq, Bool.and_eq_true, decide_eq_true_eq, Bool.false_eq_true, false_iff]; omega)

  have y_at := hid c_at
  have p_at : (r.at_ == 0) = true := beq_iff_eq.2 c_at
  have q_at : (r.at_ != 0) = false := by rw [c_at]; rfl
  clear c_at
  by_cases c_back : r.back = 0
  case neg =>
    have y_back := hid c_back
    have p_back : (r.back == 0) = false := beq_eq_false_iff_ne.2 c_back
    have q_back : (r.back != 0) = true := bne_iff_ne.2 c_back
    clear c_back
    go_wp2_with fail
    refine (refPlace_any _ _ _ _).mono ?_
    rintro e w' ⟨rfl, rfl⟩
    rw [placeN_is, e2]
    go_wp2_with fail
    refine (refNum_any _ _).mono ?_
    rintro e w' ⟨rfl, rfl⟩
    rw [e3]
    go_wp2_with fail
    refine (refNum_any _ _).mono ?_
    rintro e w' ⟨rfl, rfl⟩
    rw [e4]
    go_wp2
    all_goals go_ret
    all_goals refine ⟨ret_bool ?_, (New.refl w).alloc _ _⟩
    all_goals (rw [HV2.out]; simp only [e2, e3, e4, nf, nu, nt, y_before.out, y_after.out, decide_true, decide_false, Bool.and_true, Bool.and_false, Bool.false_and, Bool.true_and])
    all_goals have z_before := y_before.out
    all_goals have z_after := y_after.out
    all_goals first
      | done
      | rfl
      | ((have q := toList_nil.1 (by assumption : r.text.toList = [])); rw [Bool.eq_iff_iff]; simp only [beq_iff_eq, Bool.and_eq_true, decide_eq_true_eq, Bool.false_eq_true, false_iff]; omega)
      | ((have q : ¬ r.text.size = 0 := fun e => (by assumption : ¬ r.text.toList = []) (toList_nil.2 e)); rw [Bool.eq_iff_iff]; simp only [beq_iff_eq, Bool.and_eq_true, decide_eq_true_eq, Bool.false_eq_true, false_iff]; omega)
      | (rw [Bool.eq_iff_iff]; simp only [beq_iff_eq, Bool.and_eq_true, decide_eq_true_eq, Bool.false_eq_true, false_iff]; omega)

  have y_back := hid c_back
  have p_back : (r.back == 0) = true := beq_iff_eq.2 c_back
  have q_back : (r.back != 0) = false := by rw [c_back]; rfl
  clear c_back
  by_cases c_next : r.next = 0
  case neg =>
    have y_next := hid c_next
    have p_next : (r.next == 0) = false := beq_eq_false_iff_ne.2 c_next
    have q_next : (r.next != 0) = true := bne_iff_ne.2 c_next
    clear c_next
    go_wp2_with fail
    refine (refPlace_any _ _ _ _).mono ?_
    rintro e w' ⟨rfl, rfl⟩
    rw [placeN_is, e2]
    go_wp2_with fail
    refine (refNum_any _ _).mono ?_
    rintro e w' ⟨rfl, rfl⟩
    rw [e3]
    go_wp2_with fail
    refine (refNum_any _ _).mono ?_
    rintro e w' ⟨rfl, rfl⟩
    rw [e4]
    go_wp2
    all_goals go_ret
    all_goals refine ⟨ret_bool ?_, (New.refl w).alloc _ _⟩
    all_goals (rw [HV2.out]; simp only [e2, e3, e4, nf, nu, nt, y_before.out, y_after.out, decide_true, decide_false, Bool.and_true, Bool.and_false, Bool.false_and, Bool.true_and])
    all_goals have z_before := y_before.out
    all_goals have z_after := y_after.out
    all_goals first
      | done
      | rfl
      | ((have q := toList_nil.1 (by assumption : r.text.toList = [])); rw [Bool.eq_iff_iff]; simp only [beq_iff_eq, Bool.and_eq_true, decide_eq_true_eq, Bool.false_eq_true, false_iff]; omega)
      | ((have q : ¬ r.text.size = 0 := fun e => (by assumption : ¬ r.text.toList = []) (toList_nil.2 e)); rw [Bool.eq_iff_iff]; simp only [beq_iff_eq, Bool.and_eq_true, decide_eq_true_eq, Bool.false_eq_true, false_iff]; omega)
      | (rw [Bool.eq_iff_iff]; simp only [beq_iff_eq, Bool.and_eq_true, decide_eq_true_eq, Bool.false_eq_true, false_iff]; omega)

  have y_next := hid c_next
  have p_next : (r.next == 0) = true := beq_iff_eq.2 c_next
  have q_next : (r.next != 0) = false := by rw [c_next]; rfl
  clear c_next
  go_wp2_with fail
  refine (refPlace_any _ _ _ _).mono ?_
  rintro e w' ⟨rfl, rfl⟩
  rw [placeN_is, e2]
  go_wp2_with fail
  refine (refNum_any _ _).mono ?_
  rintro e w' ⟨rfl, rfl⟩
  rw [e3]
  go_wp2_with fail
  refine (refNum_any _ _).mono ?_
  rintro e w' ⟨rfl, rfl⟩
  rw [e4]
  go_wp2
  all_goals go_ret
  all_goals refine ⟨ret_bool ?_, (New.refl w).alloc _ _⟩
  all_goals (rw [HV2.out]; simp only [e2, e3, e4, nf, nu, nt, y_before.out, y_after.out, decide_true, decide_false, Bool.and_true, Bool.and_false, Bool.false_and, Bool.true_and])
  all_goals have z_before := y_before.out
  all_goals have z_after := y_after.out
  all_goals first
    | done
    | rfl
    | ((have q := toList_nil.1 (by assumption : r.text.toList = [])); rw [Bool.eq_iff_iff]; simp only [beq_iff_eq, Bool.and_eq_true, decide_eq_true_eq, Bool.false_eq_true, false_iff]; omega)
    | ((have q : ¬ r.text.size = 0 := fun e => (by assumption : ¬ r.text.toList = []) (toList_nil.2 e)); rw [Bool.eq_iff_iff]; simp only [beq_iff_eq, Bool.and_eq_true, decide_eq_true_eq, Bool.false_eq_true, false_iff]; omega)
    | (rw [Bool.eq_iff_iff]; simp only [beq_iff_eq, Bool.and_eq_true, decide_eq_true_eq, Bool.false_eq_true, false_iff]; omega)

end Go.Proofs.Ytmchbciofdokfaa
