/- What progenylaw03.Large returns, for every record. -/
import Derived.Test.YtbclgklpcbajfaaProg
import Derived.Test.YtbclgklpcbajfaaA0
namespace Go.Proofs.Ytbclgklpcbajfaa
open Go.RowKit

def large (r : Rec) : Bool := (r.units.any fun u => decide (400 < u.ready.size)) || decide (400 < r.before.size) || decide (400 < r.after.size) || decide (400 < r.text.size) || decide (20 < r.units.length)

theorem large_yes {r : Rec} {k : Nat} (hk : k < r.units.length) (h : 400 < r.units[k].ready.size) : large r = true := by
  have : (r.units.any fun u => decide (400 < u.ready.size)) = true := List.any_eq_true.2 ⟨r.units[k], List.getElem_mem hk, by simpa using h⟩
  simp [large, this]
theorem large_no {r : Rec} (h : ∀ j (hj : j < r.units.length), j < r.units.length → r.units[j].ready.size ≤ 400) : large r = (decide (400 < r.before.size) || decide (400 < r.after.size) || decide (400 < r.text.size) || decide (20 < r.units.length)) := by
  have : (r.units.any fun u => decide (400 < u.ready.size)) = false := by
    rw [List.any_eq_false]
    intro x hx
    obtain ⟨j, hj, rfl⟩ := List.getElem_of_mem hx
    have := h j hj hj
    simpa using this
  simp [large, this]

set_option maxHeartbeats 400000 in
theorem large_any (r : Rec) (bv av uv : Value) (w : World) (h : RecAt w r bv av uv) :
    Calls Try.prog 15 #[.agg (recCells r bv av uv)] w fun e w' => e = .returned (.bool (large r)) ∧ New w w' := by
  obtain ⟨⟨bp, bc, rfl, b1, b2, b3⟩, ⟨ap, ac, rfl, a1, a2, a3⟩, ⟨up, uc, rfl, u1, u2, u3⟩⟩ := h
  unfold maxLen at b2 a2 u2
  unfold recCells
  have hn : ∀ c, New w (w.alloc (.cells c 25)) := fun c => (Below.refl _ _).alloc (Nat.le_refl _) _
  go_enter Try.func15, Try.ntmps15
  go_wp2
  go_loop [3] (fun i => ∃ k : Nat, k ≤ r.units.length ∧ i = .int .i64 k ∧ Hid (∀ j (hj : j < r.units.length), j < k → r.units[j].ready.size ≤ 400)) (fun i => r.units.length - (intOf i).toNat)
  case atStart => exact ⟨0, Nat.zero_le _, rfl, fun j _ hj => by omega⟩
  case round =>
    obtain ⟨k, hk, rfl, hall⟩ := hrel
    by_cases hlt : k < r.units.length
    · obtain ⟨b, o, rfl, hb, hc⟩ := u3 (by omega)
      obtain ⟨_, _, c2⟩ := opns_at hc k hlt
      clear hc u3
      go_wp2
      · go_ret
        exact ⟨ret_bool (large_yes hlt (by omega)).symm, hn _⟩
      · go_round
        case rel =>
          refine ⟨k + 1, by omega, by go_num, fun j hj hj' => ?_⟩
          rcases Nat.lt_or_ge j k with h | h
          · exact hall.out j hj h
          · obtain rfl : j = k := by omega
            omega
        case measure => simp [intOf]; omega
    · obtain rfl : k = r.units.length := by omega
      have hL := large_no hall.out
      have HL : Hid _ := hL
      clear hL hall
      go_wp2
      all_goals go_ret
      all_goals exact ⟨ret_bool (by rw [HL.out, Bool.eq_iff_iff]; simp; try omega), hn _⟩

end Go.Proofs.Ytbclgklpcbajfaa
