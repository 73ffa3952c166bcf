/- What tape.areOpen returns, for every list of units. -/
import Derived.Test.YtmchbciofdokfaaA8
import Derived.Test.YtmchbciofdokfaaA13
namespace Go.Proofs.Ytmchbciofdokfaa
open Go.RowKit

/-- A unit of a mark may stand behind another. -/
def okU (p : Option Opn) (u : Opn) : Bool := wi 0 u.unit 1000000 && wi 0 u.next 1000000 && decide (u.ready.size ≤ 30) && (match p with | none => true | some v => decide (v.unit < u.unit))
def okAt (l : List Opn) (i : Nat) : Bool :=
  match l[i]? with
  | some u => okU (if i = 0 then none else l[i - 1]?) u
  | none => true
theorem okAt_zero {l : List Opn} (h : 0 < l.length) : okAt l 0 = okU none l[0] := by
  unfold okAt; rw [List.getElem?_eq_getElem h]; rfl
theorem okAt_succ {l : List Opn} {j : Nat} (h : j + 1 < l.length) : okAt l (j + 1) = okU (some (l[j]'(by omega))) l[j + 1] := by
  unfold okAt; rw [List.getElem?_eq_getElem h]
  simp only [Nat.add_one_ne_zero, if_false, Nat.add_sub_cancel]
  rw [List.getElem?_eq_getElem (by omega)]
def openB (l : List Opn) : Bool := (List.range l.length).all (okAt l) && decide (l.length ≤ 8)
theorem openB_no {l : List Opn} {k : Nat} (hk : k < l.length) (h : okAt l k = false) : openB l = false := by
  have : (List.range l.length).all (okAt l) = false := by
    rw [List.all_eq_false]
    exact ⟨k, List.mem_range.2 hk, by simp [h]⟩
  simp [openB, this]
theorem openB_end {l : List Opn} (h : ∀ j, j < l.length → okAt l j = true) : openB l = decide (l.length ≤ 8) := by
  have : (List.range l.length).all (okAt l) = true := by
    rw [List.all_eq_true]
    intro x hx
    exact h x (List.mem_range.1 hx)
  simp [openB, this]

set_option maxHeartbeats 2000000 in
theorem areOpen_any (v : Value) (l : List Opn) (w : World) (h : Opens w v l) :
    Calls Try.prog 73 #[v] w fun e w' => e = .returned (.bool (openB l)) ∧ New w w' := by
  obtain ⟨gp, gc, rfl, g1, g2, g3⟩ := h
  unfold maxLen at g2
  go_enter Try.func73, Try.ntmps73
  go_wp2
  go_loopw [3, 4, 7] (fun _ _ i wr => ∃ k : Nat, k ≤ l.length ∧ i = .int .i64 k ∧ New w wr ∧ Hid (∀ j, j < k → okAt l j = true)) (fun _ _ i _ => l.length - (intOf i).toNat)
  case atStart => exact ⟨0, Nat.zero_le _, rfl, New.refl _, fun j hj => by omega⟩
  case round =>
    obtain ⟨k, hk, rfl, hnew, hall⟩ := hrel
    by_cases hlt : k < l.length
    · obtain ⟨b, o, rfl, hb, hc⟩ := g3 (by omega)
      obtain ⟨c0, c1, c2⟩ := opns_at hc k hlt
      rw [← hnew.cell _ _ hb] at c0 c1 c2
      have hb2 : b < wr.heap.size := Nat.lt_of_lt_of_le hb hnew.size
      have HNO : Hid (okAt l k = false → openB l = false) := openB_no hlt
      have HGO : Hid (∀ {W}, New w W → okAt l k = true → ∃ k' : Nat, k' ≤ l.length ∧ Value.int .i64 ((k : Int) + 1) = .int .i64 k' ∧ New w W ∧ Hid (∀ j, j < k' → okAt l j = true)) := fun hW ho =>
        ⟨k + 1, by omega, by simp, hW, fun j hj => by
          rcases Nat.lt_or_ge j k with h | h
          · exact hall.out j h
          · obtain rfl : j = k := by omega
            exact ho⟩
      clear hall
      cases k with
      | zero =>
        have HOK := hid (okAt_zero hlt)
        simp only [Nat.zero_mul, Nat.add_zero] at c0 c1 c2
        clear hc g3
        generalize hx : l[0] = x at *
        clear hx
        by_cases e1 : wi 0 x.unit 1000000 = true
        case neg =>
          have e1 : wi 0 x.unit 1000000 = false := by simpa using e1
          go_wp2
          go_quiet ((go_at_call 71; exact quiet_left (within_any _ _ _ _)))
          go_wp2
          go_ret
          exact ⟨ret_bool (HNO.out (by rw [HOK.out]; simp [okU, e1])).symm, ((hnew.alloc _ _)).drewN _⟩
        by_cases e2 : wi 0 x.next 1000000 = true
        case neg =>
          have e2 : wi 0 x.next 1000000 = false := by simpa using e2
          go_wp2
          go_quiet ((go_at_call 71; exact quiet_left (within_any _ _ _ _)))
          go_wp2
          go_ret
          exact ⟨ret_bool (HNO.out (by rw [HOK.out]; simp [okU, e2])).symm, ((hnew.alloc _ _)).drewN _⟩
        by_cases e3 : x.ready.size ≤ 30
        case neg =>
          have t3 : decide (30 < (x.ready.size : Int)) = true := by simp; omega
          have E3 := hid e3
          clear e3
          go_wp2
          go_quiet ((go_at_call 71; exact quiet_left (within_any _ _ _ _)))
          go_wp2
          go_ret
          exact ⟨ret_bool (HNO.out (by rw [HOK.out]; simp [okU, E3.out])).symm, ((hnew.alloc _ _)).drewN _⟩
        have t3 : decide (30 < (x.ready.size : Int)) = false := by simp; omega
        have E3 := hid e3
        clear e3
        go_wp2
        go_quiet ((go_at_call 71; exact quiet_left (within_any _ _ _ _)))
        go_wp2
        go_roundw
        case rel => exact HGO.out ((hnew.alloc _ _).drewN _) (by rw [HOK.out]; simp [okU, e1, e2, E3.out])
        case measure => simp [intOf]; omega
      | succ j =>
        have HOK := hid (okAt_succ hlt)
        obtain ⟨d0, d1, d2⟩ := opns_at hc j (by omega)
        rw [← hnew.cell _ _ hb] at d0 d1 d2
        generalize hy : l[j] = y at *
        clear hy d1 d2
        clear hc g3
        generalize hx : l[j + 1] = x at *
        clear hx
        by_cases e1 : wi 0 x.unit 1000000 = true
        case neg =>
          have e1 : wi 0 x.unit 1000000 = false := by simpa using e1
          go_wp2
          go_quiet ((go_at_call 71; exact quiet_left (within_any _ _ _ _)))
          go_wp2
          go_ret
          exact ⟨ret_bool (HNO.out (by rw [HOK.out]; simp [okU, e1])).symm, ((hnew.alloc _ _)).drewN _⟩
        by_cases e2 : wi 0 x.next 1000000 = true
        case neg =>
          have e2 : wi 0 x.next 1000000 = false := by simpa using e2
          go_wp2
          go_quiet ((go_at_call 71; exact quiet_left (within_any _ _ _ _)))
          go_wp2
          go_ret
          exact ⟨ret_bool (HNO.out (by rw [HOK.out]; simp [okU, e2])).symm, ((hnew.alloc _ _)).drewN _⟩
        by_cases e3 : x.ready.size ≤ 30
        case neg =>
          have t3 : decide (30 < (x.ready.size : Int)) = true := by simp; omega
          have E3 := hid e3
          clear e3
          go_wp2
          go_quiet ((go_at_call 71; exact quiet_left (within_any _ _ _ _)))
          go_wp2
          go_ret
          exact ⟨ret_bool (HNO.out (by rw [HOK.out]; simp [okU, E3.out])).symm, ((hnew.alloc _ _)).drewN _⟩
        have t3 : decide (30 < (x.ready.size : Int)) = false := by simp; omega
        have E3 := hid e3
        clear e3
        by_cases e4 : y.unit < x.unit
        case neg =>
          have E4 := hid e4
          have e4 : x.unit ≤ y.unit := by omega
          go_wp2
          go_quiet ((go_at_call 71; exact quiet_left (within_any _ _ _ _)))
          go_wp2
          go_ret
          exact ⟨ret_bool (HNO.out (by rw [HOK.out]; simp [okU, E4.out])).symm, ((hnew.alloc _ _)).drewN _⟩
        have E4 := hid e4
        go_wp2
        go_quiet ((go_at_call 71; exact quiet_left (within_any _ _ _ _)))
        go_wp2
        go_roundw
        case rel => exact HGO.out ((hnew.alloc _ _).drewN _) (by rw [HOK.out]; simp [okU, e1, e2, E3.out, E4.out])
        case measure => simp [intOf]; omega
    · obtain rfl : k = l.length := by omega
      have HE : Hid _ := openB_end hall.out
      go_wp2
      go_ret
      exact ⟨ret_bool (by rw [HE.out]; simp; omega), hnew⟩

end Go.Proofs.Ytmchbciofdokfaa
