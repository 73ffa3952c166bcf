/- What tape.within, tape.forms and tape.isPlace return. -/
import Derived.Test.YtmchbciofdokfaaProg
import Derived.Test.YtmchbciofdokfaaA0
namespace Go.Proofs.Ytmchbciofdokfaa
open Go.RowKit

set_option maxHeartbeats 400000 in
theorem within_yes (lo n hi : Int) (w : World) (h : lo ≤ n ∧ n ≤ hi) : Calls Try.prog 71 #[.int .i64 lo, .int .i64 n, .int .i64 hi] w fun e w' => e = .returned (.bool true) ∧ w = w' := by
  obtain ⟨h1, h2⟩ := h
  go_enter Try.func71, Try.ntmps71
  go_wp2
  go_ret
  exact ⟨ret_bool (by simp; try omega), rfl⟩
/-- lo ≤ n ≤ hi, as one word that no walk opens. -/
def wi (lo n hi : Int) : Bool := decide (lo ≤ n) && decide (n ≤ hi)
set_option maxHeartbeats 400000 in
theorem within_no (lo n hi : Int) (w : World) (h : ¬ (lo ≤ n ∧ n ≤ hi)) : Calls Try.prog 71 #[.int .i64 lo, .int .i64 n, .int .i64 hi] w fun e w' => e = .returned (.bool false) ∧ w = w' := by
  by_cases h1 : lo ≤ n
  · have h2 : hi < n := by omega
    clear h
    go_enter Try.func71, Try.ntmps71
    go_wp2
    go_ret
    exact ⟨ret_bool (by simp; try omega), rfl⟩
  · clear h
    go_enter Try.func71, Try.ntmps71
    go_wp2
    go_ret
    exact ⟨rfl, rfl⟩

/-- What a kind of records has: place, before, back, text, units; and whether it is one. -/
def FormBack (a b c d u ok : Bool) (w : World) (e : Ending) (w' : World) : Prop := e = .returned (.tuple #[.agg #[.bool a, .bool b, .bool c, .bool d, .bool u], .bool ok]) ∧ New w w'
theorem within_any (lo n hi : Int) (w : World) : Calls Try.prog 71 #[.int .i64 lo, .int .i64 n, .int .i64 hi] w fun e w' => e = .returned (.bool (wi lo n hi)) ∧ w = w' := by
  by_cases h : lo ≤ n ∧ n ≤ hi
  · have : wi lo n hi = true := by simp [wi, h]
    rw [this]; exact within_yes lo n hi w h
  · have : wi lo n hi = false := by simp only [wi]; rw [Bool.eq_false_iff]; simpa using h
    rw [this]; exact within_no lo n hi w h
theorem wi_iff {lo n hi : Int} : wi lo n hi = true ↔ lo ≤ n ∧ n ≤ hi := by simp [wi]

set_option maxHeartbeats 400000 in
theorem forms_1 (w : World) : Calls Try.prog 70 #[.int .i64 1] w (FormBack true true false false false true w) := by
  go_enter Try.func70, Try.ntmps70
  go_wp2
  exact bodyPost_ret (v := .tuple #[.agg #[.bool true, .bool true, .bool false, .bool false, .bool false], .bool true]) (by simp [results, Try.results70, go_sem]) rfl ⟨rfl, (New.refl w).alloc _ _⟩
set_option maxHeartbeats 400000 in
theorem forms_2 (w : World) : Calls Try.prog 70 #[.int .i64 2] w (FormBack true false true false false true w) := by
  go_enter Try.func70, Try.ntmps70
  go_wp2
  exact bodyPost_ret (v := .tuple #[.agg #[.bool true, .bool false, .bool true, .bool false, .bool false], .bool true]) (by simp [results, Try.results70, go_sem]) rfl ⟨rfl, (New.refl w).alloc _ _⟩
set_option maxHeartbeats 400000 in
theorem forms_3 (w : World) : Calls Try.prog 70 #[.int .i64 3] w (FormBack false false false false false true w) := by
  go_enter Try.func70, Try.ntmps70
  go_wp2
  exact bodyPost_ret (v := .tuple #[.agg #[.bool false, .bool false, .bool false, .bool false, .bool false], .bool true]) (by simp [results, Try.results70, go_sem]) rfl ⟨rfl, (New.refl w).alloc _ _⟩
set_option maxHeartbeats 400000 in
theorem forms_4 (w : World) : Calls Try.prog 70 #[.int .i64 4] w (FormBack false false false false false true w) := by
  go_enter Try.func70, Try.ntmps70
  go_wp2
  exact bodyPost_ret (v := .tuple #[.agg #[.bool false, .bool false, .bool false, .bool false, .bool false], .bool true]) (by simp [results, Try.results70, go_sem]) rfl ⟨rfl, (New.refl w).alloc _ _⟩
set_option maxHeartbeats 400000 in
theorem forms_5 (w : World) : Calls Try.prog 70 #[.int .i64 5] w (FormBack false false false true false true w) := by
  go_enter Try.func70, Try.ntmps70
  go_wp2
  exact bodyPost_ret (v := .tuple #[.agg #[.bool false, .bool false, .bool false, .bool true, .bool false], .bool true]) (by simp [results, Try.results70, go_sem]) rfl ⟨rfl, (New.refl w).alloc _ _⟩
set_option maxHeartbeats 400000 in
theorem forms_6 (w : World) : Calls Try.prog 70 #[.int .i64 6] w (FormBack false false false false true true w) := by
  go_enter Try.func70, Try.ntmps70
  go_wp2
  exact bodyPost_ret (v := .tuple #[.agg #[.bool false, .bool false, .bool false, .bool false, .bool true], .bool true]) (by simp [results, Try.results70, go_sem]) rfl ⟨rfl, (New.refl w).alloc _ _⟩
set_option maxHeartbeats 400000 in
theorem forms_7 (w : World) : Calls Try.prog 70 #[.int .i64 7] w (FormBack false false false true false true w) := by
  go_enter Try.func70, Try.ntmps70
  go_wp2
  exact bodyPost_ret (v := .tuple #[.agg #[.bool false, .bool false, .bool false, .bool true, .bool false], .bool true]) (by simp [results, Try.results70, go_sem]) rfl ⟨rfl, (New.refl w).alloc _ _⟩
set_option maxHeartbeats 400000 in
theorem forms_no (k : Int) (w : World) (h1 : (k == 1) = false) (h2 : (k == 2) = false) (h3 : (k == 3) = false) (h4 : (k == 4) = false) (h5 : (k == 5) = false) (h6 : (k == 6) = false) (h7 : (k == 7) = false) :
    Calls Try.prog 70 #[.int .i64 k] w (FormBack false false false false false false w) := by
  go_enter Try.func70, Try.ntmps70
  go_wp2
  exact bodyPost_ret (v := .tuple #[.agg #[.bool false, .bool false, .bool false, .bool false, .bool false], .bool false]) (by simp [results, Try.results70, go_sem]) rfl ⟨rfl, (New.refl w).alloc _ _⟩

/-- What is laid is within its page. -/
def placeB (r : Rec) : Bool := wi 0 r.page 119 && wi 0 r.at_ 127 && wi 1 r.after.size (128 - r.at_)

set_option maxHeartbeats 1000000 in
theorem isPlace_any (r : Rec) (bv av uv : Value) (w : World) (h : RecAt w r bv av uv) :
    Calls Try.prog 72 #[.agg (recCells r bv av uv)] w fun e w' => e = .returned (.bool (placeB r)) ∧ New w w' := by
  obtain ⟨_, ⟨ap, ac, rfl, a1, a2, a3⟩, _⟩ := h
  unfold maxLen at a2
  unfold recCells
  have hn : ∀ c, New w (w.alloc (.cells c 36)) := fun c => (New.refl w).alloc _ _
  by_cases h1 : wi 0 r.page 119 = true
  · by_cases h2 : wi 0 r.at_ 127 = true
    · have h2' := wi_iff.1 h2
      go_enter Try.func72, Try.ntmps72
      go_wp2_with (go_at_call 71; refine (within_any _ _ _ _).mono ?_; rintro e w' ⟨rfl, rfl⟩)
      go_ret
      exact ⟨ret_bool (by simp [placeB, h1, h2]), hn _⟩
    · have h2 : wi 0 r.at_ 127 = false := by simpa using h2
      go_enter Try.func72, Try.ntmps72
      go_wp2_with (go_at_call 71; refine (within_any _ _ _ _).mono ?_; rintro e w' ⟨rfl, rfl⟩)
      go_ret
      exact ⟨ret_bool (by simp [placeB, h2]), hn _⟩
  · have h1 : wi 0 r.page 119 = false := by simpa using h1
    go_enter Try.func72, Try.ntmps72
    go_wp2_with (go_at_call 71; refine (within_any _ _ _ _).mono ?_; rintro e w' ⟨rfl, rfl⟩)
    go_ret
    exact ⟨ret_bool (by simp [placeB, h1]), hn _⟩

end Go.Proofs.Ytmchbciofdokfaa
