/- progenyref06.isNumber, isPlace. progenyref06.isMark: which lists of units a mark may have. -/
import Derived.Test.YtmchbciofdokfaaE1
namespace Go.Proofs.Ytmchbciofdokfaa
open Go.RowKit
set_option linter.unusedSimpArgs false
set_option linter.unusedVariables false

theorem refNum_any (n : Int) (w : World) : Calls Try.prog 74 #[.int .i64 n] w fun e w' => e = .returned (.bool (wi 0 n 1000000)) ∧ w = w' := by
  by_cases h : 0 ≤ n
  · go_enter Try.func74, Try.ntmps74
    go_wp2
    go_ret
    exact ⟨ret_bool (by simp [wi]; omega), rfl⟩
  · go_enter Try.func74, Try.ntmps74
    go_wp2
    go_ret
    exact ⟨ret_bool (by simp [wi]; omega), rfl⟩
def placeN (p a n : Int) : Bool := wi 0 p 119 && wi 0 a 127 && wi 1 n (128 - a)
theorem placeN_is (r : Rec) : placeN r.page r.at_ (r.after.size : Int) = placeB r := rfl
set_option maxHeartbeats 2000000 in
theorem refPlace_any (p a n : Int) (w : World) : Calls Try.prog 75 #[.int .i64 p, .int .i64 a, .int .i64 n] w fun e w' => e = .returned (.bool (placeN p a n)) ∧ w = w' := by
  have HB : ∀ b, decide ((0 ≤ p ∧ p < 120) ∧ (0 ≤ a ∧ a < 128) ∧ 1 ≤ n ∧ n ≤ 128 - a) = b → placeN p a n = b := fun b h => by
    rw [← h, Bool.eq_iff_iff]
    unfold placeN
    simp only [Bool.and_eq_true, wi_iff, decide_eq_true_eq]
    omega
  have HBB := hid HB
  clear HB
  by_cases h0 : 0 ≤ p
  case neg =>
    have HX := hid (HBB.out false (by simp; omega))
    have t : decide (0 ≤ p) = false := by simpa using h0
    clear h0
    go_enter Try.func75, Try.ntmps75
    go_wp2
    go_ret
    exact ⟨ret_bool HX.out.symm, rfl⟩
  by_cases h1 : p < 120
  case neg =>
    have HX := hid (HBB.out false (by simp; omega))
    have t : decide (0 ≤ p) = true := by simpa using h0
    have t1 : decide (p < 120) = false := by simpa using h1
    clear h0 h1
    go_enter Try.func75, Try.ntmps75
    go_wp2
    go_ret
    exact ⟨ret_bool HX.out.symm, rfl⟩
  by_cases h2 : 0 ≤ a
  case neg =>
    have HX := hid (HBB.out false (by simp; omega))
    have t : decide (0 ≤ p) = true := by simpa using h0
    have t1 : decide (p < 120) = true := by simpa using h1
    have t2 : decide (0 ≤ a) = false := by simpa using h2
    clear h0 h1 h2
    go_enter Try.func75, Try.ntmps75
    go_wp2
    go_ret
    exact ⟨ret_bool HX.out.symm, rfl⟩
  by_cases h3 : a < 128
  case neg =>
    have HX := hid (HBB.out false (by simp; omega))
    have t : decide (0 ≤ p) = true := by simpa using h0
    have t1 : decide (p < 120) = true := by simpa using h1
    have t2 : decide (0 ≤ a) = true := by simpa using h2
    have t3 : decide (a < 128) = false := by simpa using h3
    clear h0 h1 h2 h3
    go_enter Try.func75, Try.ntmps75
    go_wp2
    go_ret
    exact ⟨ret_bool HX.out.symm, rfl⟩
  by_cases h4 : 1 ≤ n
  case neg =>
    have HX := hid (HBB.out false (by simp; omega))
    have t : decide (0 ≤ p) = true := by simpa using h0
    have t1 : decide (p < 120) = true := by simpa using h1
    have t2 : decide (0 ≤ a) = true := by simpa using h2
    have t3 : decide (a < 128) = true := by simpa using h3
    have t4 : decide (1 ≤ n) = false := by simpa using h4
    clear h0 h1 h2 h3 h4
    go_enter Try.func75, Try.ntmps75
    go_wp2
    go_ret
    exact ⟨ret_bool HX.out.symm, rfl⟩
  have hw : IntKind.i64.wrap (128 - a) = 128 - a := IntWalk.i64_in _ (by omega)
  have HX := hid (HBB.out (decide (n ≤ 128 - a)) (by rw [Bool.eq_iff_iff]; simp; omega))
  have t : decide (0 ≤ p) = true := by simpa using h0
  have t1 : decide (p < 120) = true := by simpa using h1
  have t2 : decide (0 ≤ a) = true := by simpa using h2
  have t3 : decide (a < 128) = true := by simpa using h3
  have t4 : decide (1 ≤ n) = true := by simpa using h4
  go_enter Try.func75, Try.ntmps75
  go_wp2
  go_ret
  exact ⟨ret_bool HX.out.symm, rfl⟩
end Go.Proofs.Ytmchbciofdokfaa

namespace Go.Proofs.Ytmchbciofdokfaa
open Go.RowKit
set_option linter.unusedSimpArgs false
set_option linter.unusedVariables false

set_option maxHeartbeats 2000000 in
theorem isMark_any (v : Value) (l : List Opn) (w : World) (h : Opens w v l) :
    Calls Try.prog 76 #[v] w fun e w' => e = .returned (.bool (openB l)) ∧ New w w' := by
  obtain ⟨gp, gc, rfl, g1, g2, g3⟩ := h
  unfold maxLen at g2
  go_enter Try.func76, Try.ntmps76
  go_wp2
  go_loopw [3] (fun i wr => ∃ k : Nat, k ≤ l.length ∧ i = .int .i64 k ∧ New w wr ∧ Hid (∀ j, j < k → okAt l j = true)) (fun i _ => l.length - (intOf i).toNat)
  case atStart => exact ⟨0, Nat.zero_le _, rfl, New.refl _, fun j hj => by omega⟩
  case round =>
    obtain ⟨k, hk, rfl, hnew, hall⟩ := hrel
    by_cases hlt : k < l.length
    · obtain ⟨b, o, rfl, hb, hc⟩ := g3 (by omega)
      obtain ⟨c0, c1, c2⟩ := opns_at hc k hlt
      rw [← hnew.cell _ _ hb] at c0 c1 c2
      have hb2 : b < wr.heap.size := Nat.lt_of_lt_of_le hb hnew.size
      have HNO : Hid (okAt l k = false → openB l = false) := openB_no hlt
      have HGO : Hid (∀ {W}, New w W → okAt l k = true → ∃ k' : Nat, k' ≤ l.length ∧ Value.int .i64 ((k : Int) + 1) = .int .i64 k' ∧ New w W ∧ Hid (∀ j, j < k' → okAt l j = true)) := fun hW ho =>
        ⟨k + 1, by omega, by simp, hW, fun j hj => by
          rcases Nat.lt_or_ge j k with h | h
          · exact hall.out j h
          · obtain rfl : j = k := by omega
            exact ho⟩
      clear hall
      cases k with
      | zero =>
        have HOK := hid (okAt_zero hlt)
        simp only [Nat.zero_mul, Nat.add_zero] at c0 c1 c2
        clear hc g3
        generalize hx : l[0] = x at *
        clear hx
        by_cases e1 : wi 0 x.unit 1000000 = true
        case neg =>
          have e1 : wi 0 x.unit 1000000 = false := by simpa using e1
          go_wp2
          go_quiet ((go_at_call 74; exact quiet_left (refNum_any _ _)))
          go_wp2
          go_ret
          exact ⟨ret_bool (HNO.out (by rw [HOK.out]; simp [okU, e1])).symm, hnew.drewN _⟩
        by_cases e2 : wi 0 x.next 1000000 = true
        case neg =>
          have e2 : wi 0 x.next 1000000 = false := by simpa using e2
          go_wp2
          go_quiet ((go_at_call 74; exact quiet_left (refNum_any _ _)))
          go_wp2
          go_ret
          exact ⟨ret_bool (HNO.out (by rw [HOK.out]; simp [okU, e2])).symm, hnew.drewN _⟩
        by_cases e3 : x.ready.size ≤ 30
        case neg =>
          have t3 : decide (30 < (x.ready.size : Int)) = true := by simp; omega
          have E3 := hid e3
          clear e3
          go_wp2
          go_quiet ((go_at_call 74; exact quiet_left (refNum_any _ _)))
          go_wp2
          go_ret
          exact ⟨ret_bool (HNO.out (by rw [HOK.out]; simp [okU, E3.out])).symm, hnew.drewN _⟩
        have t3 : decide (30 < (x.ready.size : Int)) = false := by simp; omega
        have E3 := hid e3
        clear e3
        go_wp2
        go_quiet ((go_at_call 74; exact quiet_left (refNum_any _ _)))
        go_wp2
        go_roundw
        case rel => exact HGO.out (hnew.drewN _) (by rw [HOK.out]; simp [okU, e1, e2, E3.out])
        case measure => simp [intOf]; omega
      | succ j =>
        have HOK := hid (okAt_succ hlt)
        obtain ⟨d0, d1, d2⟩ := opns_at hc j (by omega)
        rw [← hnew.cell _ _ hb] at d0 d1 d2
        generalize hy : l[j] = y at *
        clear hy d1 d2
        clear hc g3
        generalize hx : l[j + 1] = x at *
        clear hx
        by_cases e1 : wi 0 x.unit 1000000 = true
        case neg =>
          have e1 : wi 0 x.unit 1000000 = false := by simpa using e1
          go_wp2
          go_quiet ((go_at_call 74; exact quiet_left (refNum_any _ _)))
          go_wp2
          go_ret
          exact ⟨ret_bool (HNO.out (by rw [HOK.out]; simp [okU, e1])).symm, hnew.drewN _⟩
        by_cases e2 : wi 0 x.next 1000000 = true
        case neg =>
          have e2 : wi 0 x.next 1000000 = false := by simpa using e2
          go_wp2
          go_quiet ((go_at_call 74; exact quiet_left (refNum_any _ _)))
          go_wp2
          go_ret
          exact ⟨ret_bool (HNO.out (by rw [HOK.out]; simp [okU, e2])).symm, hnew.drewN _⟩
        by_cases e3 : x.ready.size ≤ 30
        case neg =>
          have t3 : decide (30 < (x.ready.size : Int)) = true := by simp; omega
          have E3 := hid e3
          clear e3
          go_wp2
          go_quiet ((go_at_call 74; exact quiet_left (refNum_any _ _)))
          go_wp2
          go_ret
          exact ⟨ret_bool (HNO.out (by rw [HOK.out]; simp [okU, E3.out])).symm, hnew.drewN _⟩
        have t3 : decide (30 < (x.ready.size : Int)) = false := by simp; omega
        have E3 := hid e3
        clear e3
        by_cases e4 : y.unit < x.unit
        case neg =>
          have E4 := hid e4
          have e4 : x.unit ≤ y.unit := by omega
          go_wp2
          go_quiet ((go_at_call 74; exact quiet_left (refNum_any _ _)))
          go_wp2
          go_ret
          exact ⟨ret_bool (HNO.out (by rw [HOK.out]; simp [okU, E4.out])).symm, hnew.drewN _⟩
        have E4 := hid e4
        go_wp2
        go_quiet ((go_at_call 74; exact quiet_left (refNum_any _ _)))
        go_wp2
        go_roundw
        case rel => exact HGO.out (hnew.drewN _) (by rw [HOK.out]; simp [okU, e1, e2, E3.out, E4.out])
        case measure => simp [intOf]; omega
    · obtain rfl : k = l.length := by omega
      have HE : Hid _ := openB_end hall.out
      go_wp2
      go_ret
      exact ⟨ret_bool (by rw [HE.out]; simp; omega), hnew⟩

end Go.Proofs.Ytmchbciofdokfaa
