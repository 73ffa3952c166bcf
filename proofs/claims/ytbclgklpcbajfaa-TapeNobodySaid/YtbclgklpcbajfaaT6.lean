/- TapeNobody's walk. -/
import Derived.Test.YtbclgklpcbajfaaT5
import Derived.Test.YtbclgklpcbajfaaA12
namespace Go.Proofs.Ytbclgklpcbajfaa
open Go.RowKit
set_option linter.unusedSimpArgs false
set_option linter.unusedVariables false

set_option maxHeartbeats 2000000 in
set_option maxRecDepth 100000 in
theorem tnobody_law (r : Rec) (bv av uv : Value) (n : Int) (w : World) (h : RecAt w r bv av uv) :
    Calls Try.prog 12 #[.agg (recCells r bv av uv), .int .i64 n] w fun e w' => e = .returned (.bool true) ∧ New w w' := by
  have hn0 : New w (w.alloc (.cells (recCells r bv av uv) 25)) := (New.refl w).alloc _ _
  have HN0 := hid hn0
  clear hn0
  go_enter Try.func12, Try.ntmps12
  go_wp2_with fail
  refine (open_nil _).mono ?_
  rintro e w1 ⟨rfl, hn1⟩
  have ml := hn1.made.1
  have HN1 := hid (HN0.out.trans hn1)
  clear hn1
  go_wp2_with fail
  refine (tappend_nil r bv av uv _).mono ?_
  rintro e w2 ⟨rfl, hn2⟩
  have HN2 := hid (HN1.out.trans hn2)
  clear hn2 ml
  go_wp2_with fail
  refine (trecord_nil n _).mono ?_
  rintro e w3 ⟨rfl, hn3⟩
  have HN3 := hid ((HN2.out.trans hn3))
  clear hn3
  go_wp2_with fail
  refine (tforce_nil _).mono ?_
  rintro e w4 ⟨rfl, hn4⟩
  have HN4 := hid ((HN3.out.alloc (recCells rec0 (.slice none 0 0) (.slice none 0 0) (.slice none 0 0)) 25).trans hn4)
  clear hn4
  go_wp2_with fail
  refine (trecords_nil _).mono ?_
  rintro e w5 ⟨rfl, hn5⟩
  have HN5 := hid (HN4.out.trans hn5)
  clear hn5
  go_wp2_with fail
  refine (tlast_nil _).mono ?_
  rintro e w6 ⟨rfl, hn6⟩
  have HN6 := hid (HN5.out.trans hn6)
  clear hn6
  go_wp2_with fail
  refine (tforced_nil _).mono ?_
  rintro e w7 ⟨rfl, hn7⟩
  have HN7 := hid (HN6.out.trans hn7)
  clear hn7
  go_wp2_with fail
  refine (tfree_nil _).mono ?_
  rintro e w8 ⟨rfl, hn8⟩
  have HN8 := hid (HN7.out.trans hn8)
  clear hn8
  go_wp2_with fail
  refine (first_any _).mono ?_
  rintro e w9 ⟨rfl, hn9⟩
  go_wp2
  go_ret
  exact ⟨rfl, HN8.out.trans hn9⟩

end Go.Proofs.Ytbclgklpcbajfaa
