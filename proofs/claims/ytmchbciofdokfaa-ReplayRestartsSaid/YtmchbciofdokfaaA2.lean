/- What bytes.Equal and slices.Equal at []api.Open return, for all slices. -/
import Derived.Test.YtmchbciofdokfaaProg
import Derived.Test.YtmchbciofdokfaaA0
namespace Go.Proofs.Ytmchbciofdokfaa
open Go.RowKit

set_option maxHeartbeats 400000 in
theorem bytesEqual_any (u v : Value) (s t : ByteArray) (w : World) (h1 : Bytes w u s) (h2 : Bytes w v t) :
    Calls Try.prog 87 #[u, v] w fun e w' => e = .returned (.bool (decide (s = t))) ∧ w = w' := by
  have k1 := h1.convert (P := Try.prog) 33 5 9 Try.underlying33 Try.underlying5 Try.underlying9
  have k2 := h2.convert (P := Try.prog) 33 5 9 Try.underlying33 Try.underlying5 Try.underlying9
  go_enter Try.func87, Try.ntmps87
  go_wp2
  go_ret
  exact ⟨ret_bool (str_beq s t), rfl⟩

theorem opn_eq {a b : Opn} (h1 : a.unit = b.unit) (h2 : a.next = b.next) (h3 : a.ready.toList = b.ready.toList) : a = b := by
  cases a; cases b; simp only at h1 h2 h3
  rw [h1, h2, str_eq h3]

set_option maxHeartbeats 1000000 in
theorem opensEqual_any (u v : Value) (l m : List Opn) (w : World) (h1 : Opens w u l) (h2 : Opens w v m) :
    Calls Try.prog 89 #[u, v] w fun e w' => e = .returned (.bool (decide (l = m))) ∧ New w w' := by
  obtain ⟨up, uc, rfl, u1, u2, u3⟩ := h1
  obtain ⟨vp, vc, rfl, v1, v2, v3⟩ := h2
  unfold maxLen at u2 v2
  by_cases hl : l.length = m.length
  · have hl1 : ((l.length : Int) != (m.length : Int)) = false := by simp [hl]
    have HL : Hid _ := hl
    clear hl
    go_enter Try.func89, Try.ntmps89
    go_wp2
    go_loopw [5, 13] (fun i j wr => ∃ k : Nat, k ≤ l.length ∧ j = .int .i64 k ∧ New w wr ∧ Hid (∀ i, i < k → l[i]? = m[i]?)) (fun i j _ => l.length - (intOf j).toNat)
    case atStart => exact ⟨0, Nat.zero_le _, rfl, New.refl _, fun j hj => by omega⟩
    case round =>
      obtain ⟨k, hk, rfl, hnew, hall⟩ := hrel
      by_cases hlt : k < l.length
      · have hlm : k < m.length := by have := HL.out; omega
        obtain ⟨b, o, rfl, hb, hc⟩ := u3 (by omega)
        obtain ⟨b', o', rfl, hb', hc'⟩ := v3 (by omega)
        obtain ⟨c0, c1, c2⟩ := opns_at hc k hlt
        obtain ⟨d0, d1, d2⟩ := opns_at hc' k hlm
        rw [← hnew.cell _ _ hb] at c0 c1 c2
        rw [← hnew.cell _ _ hb'] at d0 d1 d2
        clear hc u3 hc' v3
        have hne : Hid (l[k] ≠ m[k] → decide (l = m) = false) := fun h => by
          rw [decide_eq_false_iff_not]; intro e; subst e; exact h rfl
        generalize hx : l[k] = x at *
        generalize hy : m[k] = y at *
        have HX : Hid _ := hx
        have HY : Hid _ := hy
        clear hx hy
        by_cases e1 : x.unit = y.unit
        · by_cases e2 : x.next = y.next
          · by_cases e3 : x.ready.toList = y.ready.toList
            · have E : Hid (x = y) := opn_eq e1 e2 e3
              go_wp2
              go_region
              go_wp2
              go_roundw
              case rel =>
                refine ⟨k + 1, by omega, by go_num, hnew.drew, fun j hj => ?_⟩
                rcases Nat.lt_or_ge j k with h | h
                · exact hall.out j h
                · obtain rfl : j = k := by omega
                  rw [List.getElem?_eq_getElem hlt, List.getElem?_eq_getElem hlm, HX.out, HY.out, E.out]
              case measure => simp [intOf]; omega
            · go_wp2
              go_region
              go_wp2
              go_ret
              exact ⟨ret_bool (hne.out (fun e => e3 (by rw [e]))).symm, hnew.drew⟩
          · go_wp2
            go_region
            go_wp2
            go_ret
            exact ⟨ret_bool (hne.out (fun e => e2 (by rw [e]))).symm, hnew.drew⟩
        · go_wp2
          go_region
          go_wp2
          go_ret
          exact ⟨ret_bool (hne.out (fun e => e1 (by rw [e]))).symm, hnew.drew⟩
      · obtain rfl : k = l.length := by omega
        go_wp2
        go_ret
        exact ⟨ret_bool (by rw [eq_upto HL.out hall.out]; simp), hnew⟩
  · have hl1 : ((l.length : Int) != (m.length : Int)) = true := by simp; omega
    have HL : Hid _ := hl
    clear hl
    go_enter Try.func89, Try.ntmps89
    go_wp2
    go_ret
    exact ⟨ret_bool (by symm; rw [decide_eq_false_iff_not]; intro e; exact HL.out (by rw [e])), New.refl _⟩

end Go.Proofs.Ytmchbciofdokfaa
