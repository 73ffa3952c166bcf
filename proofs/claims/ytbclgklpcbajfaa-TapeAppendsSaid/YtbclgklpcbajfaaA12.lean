/- The walk of progenylaw03.TapeSame, for every two records. -/
import Derived.Test.YtbclgklpcbajfaaA1
import Derived.Test.YtbclgklpcbajfaaA5
import Derived.Test.YtbclgklpcbajfaaA11
import Derived.Test.YtbclgklpcbajfaaA13
namespace Go.Proofs.Ytbclgklpcbajfaa
open Go.RowKit
set_option linter.unusedSimpArgs false
set_option linter.unusedVariables false

/-- The record of the chapter's first example. -/
def rec37 : Rec := ⟨3, 7, 0, 0, ByteArray.empty, ByteArray.empty, 0, 0, ByteArray.empty, []⟩
theorem bytes_none (w : World) : Bytes w (.slice none 0 0) ByteArray.empty := ⟨none, 0, rfl, Nat.le_refl _, by decide, fun h => absurd h (by decide)⟩
theorem rec37_at (w : World) : RecAt w rec37 (.slice none 0 0) (.slice none 0 0) (.slice none 0 0) :=
  ⟨bytes_none w, bytes_none w, ⟨none, 0, rfl, Nat.le_refl _, by decide, fun h => absurd h (by decide)⟩⟩
theorem rec37_valid : validB rec37 = true := by decide
theorem rec37_bytes : (bytesOf (encB 1 rec37)).toList = [0, 0, 0, 13, 0, 0, 0, 1, 3, 0, 0, 0, 7] := by
  rw [ByteArray.toList_eq]
  decide

set_option maxHeartbeats 1000000 in
theorem first_any (w : World) : Calls Try.prog 16 #[] w fun e w' => e = .returned (.bool true) ∧ New w w' := by
  go_enter Try.func16, Try.ntmps16
  go_wp2_with fail
  refine (enc_3 1 rec37 _ _ _ _ (rec37_at _) rfl rec37_valid (by decide) (by decide)).mono ?_
  rintro e w1 ⟨v, rfl, hv, hn⟩
  have kc := Bytes.convert (P := Try.prog) hv 22 5 9 Try.underlying22 Try.underlying5 Try.underlying9
  go_wp2
  go_ret
  exact ⟨ret_bool (by rw [rec37_bytes]; rfl), hn⟩

/-- The ten cells of a record's box. -/
def BoxAt (w : World) (b : Nat) (r : Rec) (bv av uv : Value) : Prop := ∀ o, w.cell? ⟨b, o, none⟩ = (recCells r bv av uv)[o]?

set_option maxRecDepth 100000 in
set_option maxHeartbeats 4000000 in
theorem tapeSame_yes (r s : Rec) (b1 a1 u1 b2 a2 u2 : Value) (w : World) (h1 : RecAt w r b1 a1 u1) (h2 : RecAt w s b2 a2 u2) (l1 : large r = false) (l2 : large s = false) :
    Calls Try.prog 3 #[.agg (recCells r b1 a1 u1), .agg (recCells s b2 a2 u2)] w fun e w' => e = .returned (.bool true) ∧ New w w' := by
  have HC1 := hid (show recCells r b1 a1 u1 = #[.int .i64 r.kind, .int .i64 r.unit, .int .i64 r.page, .int .i64 r.at_, b1, a1, .int .i64 r.back, .int .i64 r.next, .string r.text, u1] from rfl)
  have HC2 := hid (show recCells s b2 a2 u2 = #[.int .i64 s.kind, .int .i64 s.unit, .int .i64 s.page, .int .i64 s.at_, b2, a2, .int .i64 s.back, .int .i64 s.next, .string s.text, u2] from rfl)
  rw [HC1.out, HC2.out]
  go_enter Try.func3, Try.ntmps3
  go_wp2_with fail
  have n0 := new2 w
  refine (large_any r _ _ _ _ (h1.new (n0 _ _ _ _))).mono ?_
  rintro e w1 ⟨rfl, n1⟩
  obtain ⟨⟨q1, q2⟩, _⟩ := n1.made2
  go_wp2_with fail
  refine (large_any s _ _ _ _ (h2.new ((n0 _ _ _ _).trans n1))).mono ?_
  rintro e w2 ⟨rfl, n2⟩
  clear q1 q2
  have N2 := (n0 _ _ _ _).trans (n1.trans n2)
  obtain ⟨⟨q1, q2⟩, _⟩ := (n1.trans n2).made2
  go_wp2_with fail
  have HS := hid (show ((decide (r = s)) == (decide (r = s))) = true by simp)
  have e0 : ∀ x : Bool, (x == x) = true := by simp
  have e1 : decide (r = r) = true := by simp
  have hR : ∀ (p : After w2) o, p.w.cell? ⟨w.heap.size, o, none⟩ = #[Value.int .i64 r.kind, .int .i64 r.unit, .int .i64 r.page, .int .i64 r.at_, b1, a1, .int .i64 r.back, .int .i64 r.next, .string r.text, u1][o]? := fun p => ((n1.trans n2).trans p.new).made2.1.1
  have hS : ∀ (p : After w2) o, p.w.cell? ⟨w.heap.size + 1, o, none⟩ = #[Value.int .i64 s.kind, .int .i64 s.unit, .int .i64 s.page, .int .i64 s.at_, b2, a2, .int .i64 s.back, .int .i64 s.next, .string s.text, u2][o]? := fun p => ((n1.trans n2).trans p.new).made2.1.2
  refine wp_region_new (by kernel_rfl) (by kernel_rfl) ?_
  repeat (go_big_quiet_step (first
      | (with_reducible refine calls_after (sameRecord_any r s _ _ _ _ _ _ _ (h1.new (N2.trans (After.new _))) (h2.new (N2.trans (After.new _)))))
      | (with_reducible refine calls_after (sameRecord_any r r _ _ _ _ _ _ _ (h1.new (N2.trans (After.new _))) (h1.new (N2.trans (After.new _)))))
      | (with_reducible refine calls_after (refSameRecord_any r s _ _ _ _ _ _ _ (h1.new (N2.trans (After.new _))) (h2.new (N2.trans (After.new _)))))
      | (with_reducible refine calls_after (first_any _))))
  refine wpQuiet_nil ?_
  rintro _ ⟨p, rfl⟩
  go_wp2
  go_ret
  exact ⟨ret_bool (by simp), N2.trans p.new⟩

set_option maxRecDepth 100000 in
set_option maxHeartbeats 4000000 in
theorem tapeSame_any (r s : Rec) (b1 a1 u1 b2 a2 u2 : Value) (w : World) (h1 : RecAt w r b1 a1 u1) (h2 : RecAt w s b2 a2 u2) :
    Calls Try.prog 3 #[.agg (recCells r b1 a1 u1), .agg (recCells s b2 a2 u2)] w fun e w' => e = .returned (.bool true) ∧ New w w' := by
  by_cases l1 : large r = true
  · have HC1 := hid (show recCells r b1 a1 u1 = #[.int .i64 r.kind, .int .i64 r.unit, .int .i64 r.page, .int .i64 r.at_, b1, a1, .int .i64 r.back, .int .i64 r.next, .string r.text, u1] from rfl)
    have HC2 := hid (show recCells s b2 a2 u2 = #[.int .i64 s.kind, .int .i64 s.unit, .int .i64 s.page, .int .i64 s.at_, b2, a2, .int .i64 s.back, .int .i64 s.next, .string s.text, u2] from rfl)
    rw [HC1.out, HC2.out]
    go_enter Try.func3, Try.ntmps3
    go_wp2_with fail
    have n0 := new2 w
    refine (large_any r _ _ _ _ (h1.new (n0 _ _ _ _))).mono ?_
    rintro e w1 ⟨rfl, n1⟩
    go_wp2_with fail
    refine (first_any _).mono ?_
    rintro e w2 ⟨rfl, n2⟩
    go_wp2
    go_ret
    exact ⟨rfl, (n0 _ _ _ _).trans (n1.trans n2)⟩
  have l1 : large r = false := by simpa using l1
  by_cases l2 : large s = true
  · have HC1 := hid (show recCells r b1 a1 u1 = #[.int .i64 r.kind, .int .i64 r.unit, .int .i64 r.page, .int .i64 r.at_, b1, a1, .int .i64 r.back, .int .i64 r.next, .string r.text, u1] from rfl)
    have HC2 := hid (show recCells s b2 a2 u2 = #[.int .i64 s.kind, .int .i64 s.unit, .int .i64 s.page, .int .i64 s.at_, b2, a2, .int .i64 s.back, .int .i64 s.next, .string s.text, u2] from rfl)
    rw [HC1.out, HC2.out]
    go_enter Try.func3, Try.ntmps3
    go_wp2_with fail
    have n0 := new2 w
    refine (large_any r _ _ _ _ (h1.new (n0 _ _ _ _))).mono ?_
    rintro e w1 ⟨rfl, n1⟩
    obtain ⟨⟨q1, q2⟩, _⟩ := n1.made2
    go_wp2_with fail
    refine (large_any s _ _ _ _ (h2.new ((n0 _ _ _ _).trans n1))).mono ?_
    rintro e w2 ⟨rfl, n2⟩
    go_wp2_with fail
    refine (first_any _).mono ?_
    rintro e w3 ⟨rfl, n3⟩
    go_wp2
    go_ret
    exact ⟨rfl, (n0 _ _ _ _).trans (n1.trans (n2.trans n3))⟩
  have l2 : large s = false := by simpa using l2
  exact tapeSame_yes r s b1 a1 u1 b2 a2 u2 w h1 h2 l1 l2

end Go.Proofs.Ytbclgklpcbajfaa
