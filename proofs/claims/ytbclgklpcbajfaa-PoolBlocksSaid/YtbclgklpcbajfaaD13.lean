/- disk's functions at a nil disk, and at one that is a zero value. -/
import Derived.Test.YtbclgklpcbajfaaD1
namespace Go.Proofs.Ytbclgklpcbajfaa
open Go.RowKit
set_option linter.unusedSimpArgs false
set_option linter.unusedVariables false

/-- A nil disk, or one that was not made. -/
def IsNone (w : World) (v : Value) : Prop := v = .pointer none ∨ ∃ b, v = .pointer (some ⟨b, 0, none⟩) ∧ w.cell? ⟨b, 0, none⟩ = some (.bool false)

set_option maxHeartbeats 400000 in
theorem none_yes (v : Value) (w : World) (h : IsNone w v) : Calls Try.prog 62 #[v] w fun e w' => e = .returned (.bool true) ∧ w = w' := by
  rcases h with rfl | ⟨b, rfl, hc⟩
  · go_enter Try.func62, Try.ntmps62
    go_wp2
    go_ret
    exact ⟨rfl, rfl⟩
  · go_enter Try.func62, Try.ntmps62
    go_wp2
    go_ret
    exact ⟨rfl, rfl⟩

theorem IsNone.new {w w' : World} {v : Value} (h : IsNone w v) (hn : New w w') (hb : ∀ b, v = .pointer (some ⟨b, 0, none⟩) → b < w.heap.size) : IsNone w' v := by
  rcases h with h | ⟨b, e, hc⟩
  · exact .inl h
  · exact .inr ⟨b, e, (hn.cell b 0 (hb b e)).trans hc⟩
theorem IsNone.alloc {w : World} {v : Value} (h : IsNone w v) (o : Obj) : IsNone (w.alloc o) v := by
  rcases h with h | ⟨b, e, hc⟩
  · exact .inl h
  · have hb : b < w.heap.size := World.block_lt_of_cell? w _ hc
    exact .inr ⟨b, e, by rw [World.cell?_alloc_past _ _ _ hb]; exact hc⟩

set_option maxHeartbeats 400000 in
theorem lose_none (v : Value) (n : Int) (w : World) (h : IsNone w v) : Calls Try.prog 40 #[v, .int .i64 n] w fun e w' => e = .returned (.int .i64 6) ∧ w' = w.alloc (.cells #[.int .i64 n] 3) := by
  go_enter Try.func40, Try.ntmps40
  go_wp2_with fail
  refine (none_yes v _ (h.alloc _)).mono ?_
  rintro e w' ⟨rfl, rfl⟩
  go_wp2
  go_ret
  exact ⟨rfl, rfl⟩

set_option maxHeartbeats 400000 in
theorem arm_none (v : Value) (n : Int) (w : World) (h : IsNone w v) : Calls Try.prog 32 #[v, .int .i64 n] w fun e w' => e = .returned (.tuple #[]) ∧ w = w' := by
  go_enter Try.func32, Try.ntmps32
  go_wp2_with fail
  refine (none_yes v w h).mono ?_
  rintro e w' ⟨rfl, rfl⟩
  go_wp2
  go_end0
  exact ⟨rfl, rfl⟩

set_option maxHeartbeats 400000 in
theorem read_none (v : Value) (n : Int) (w : World) (h : IsNone w v) : Calls Try.prog 27 #[v, .int .i64 n] w fun e w' => e = .returned (.tuple #[.slice none 0 0, .int .i64 6]) ∧ w = w' := by
  go_enter Try.func27, Try.ntmps27
  go_wp2_with fail
  refine (none_yes v w h).mono ?_
  rintro e w' ⟨rfl, rfl⟩
  go_wp2
  go_ret2
  exact ⟨rfl, rfl⟩

set_option maxHeartbeats 400000 in
theorem write_none (v : Value) (n : Int) (u : Value) (w : World) (h : IsNone w v) : Calls Try.prog 22 #[v, .int .i64 n, u] w fun e w' => e = .returned (.int .i64 6) ∧ w = w' := by
  go_enter Try.func22, Try.ntmps22
  go_wp2_with fail
  refine (none_yes v w h).mono ?_
  rintro e w' ⟨rfl, rfl⟩
  go_wp2
  go_ret
  exact ⟨rfl, rfl⟩

set_option maxHeartbeats 400000 in
theorem flush_none (v : Value)  (w : World) (h : IsNone w v) : Calls Try.prog 23 #[v] w fun e w' => e = .returned (.int .i64 6) ∧ w = w' := by
  go_enter Try.func23, Try.ntmps23
  go_wp2_with fail
  refine (none_yes v w h).mono ?_
  rintro e w' ⟨rfl, rfl⟩
  go_wp2
  go_ret
  exact ⟨rfl, rfl⟩

set_option maxHeartbeats 400000 in
theorem crash_none (v : Value) (u : Value) (n : Int) (w : World) (h : IsNone w v) : Calls Try.prog 25 #[v, u, .int .i64 n] w fun e w' => e = .returned (.int .i64 6) ∧ w = w' := by
  go_enter Try.func25, Try.ntmps25
  go_wp2_with fail
  refine (none_yes v w h).mono ?_
  rintro e w' ⟨rfl, rfl⟩
  go_wp2
  go_ret
  exact ⟨rfl, rfl⟩

set_option maxHeartbeats 400000 in
theorem start_none (v : Value)  (w : World) (h : IsNone w v) : Calls Try.prog 26 #[v] w fun e w' => e = .returned (.int .i64 6) ∧ w = w' := by
  go_enter Try.func26, Try.ntmps26
  go_wp2_with fail
  refine (none_yes v w h).mono ?_
  rintro e w' ⟨rfl, rfl⟩
  go_wp2
  go_ret
  exact ⟨rfl, rfl⟩

set_option maxHeartbeats 400000 in
theorem down_none (v : Value)  (w : World) (h : IsNone w v) : Calls Try.prog 30 #[v] w fun e w' => e = .returned (.bool true) ∧ w = w' := by
  go_enter Try.func30, Try.ntmps30
  go_wp2_with fail
  refine (none_yes v w h).mono ?_
  rintro e w' ⟨rfl, rfl⟩
  go_wp2
  go_ret
  exact ⟨rfl, rfl⟩

set_option maxHeartbeats 400000 in
theorem waiting_none (v : Value)  (w : World) (h : IsNone w v) : Calls Try.prog 29 #[v] w fun e w' => e = .returned (.int .i64 0) ∧ w = w' := by
  go_enter Try.func29, Try.ntmps29
  go_wp2_with fail
  refine (none_yes v w h).mono ?_
  rintro e w' ⟨rfl, rfl⟩
  go_wp2
  go_ret
  exact ⟨rfl, rfl⟩

set_option maxHeartbeats 400000 in
theorem acts_none (v : Value)  (w : World) (h : IsNone w v) : Calls Try.prog 33 #[v] w fun e w' => e = .returned (.int .i64 0) ∧ w = w' := by
  go_enter Try.func33, Try.ntmps33
  go_wp2_with fail
  refine (none_yes v w h).mono ?_
  rintro e w' ⟨rfl, rfl⟩
  go_wp2
  go_ret
  exact ⟨rfl, rfl⟩

set_option maxHeartbeats 400000 in
theorem falls_none (v : Value)  (w : World) (h : IsNone w v) : Calls Try.prog 41 #[v] w fun e w' => e = .returned (.int .i64 0) ∧ w = w' := by
  go_enter Try.func41, Try.ntmps41
  go_wp2_with fail
  refine (none_yes v w h).mono ?_
  rintro e w' ⟨rfl, rfl⟩
  go_wp2
  go_ret
  exact ⟨rfl, rfl⟩

set_option maxHeartbeats 400000 in
theorem copy_none (v : Value)  (w : World) (h : IsNone w v) : Calls Try.prog 24 #[v] w fun e w' => e = .returned (.pointer none) ∧ w = w' := by
  go_enter Try.func24, Try.ntmps24
  go_wp2_with fail
  refine (none_yes v w h).mono ?_
  rintro e w' ⟨rfl, rfl⟩
  go_wp2
  go_ret
  exact ⟨rfl, rfl⟩

set_option maxHeartbeats 400000 in
theorem same_nones (v u : Value) (w : World) (h : IsNone w v) (h' : IsNone w u) : Calls Try.prog 31 #[v, u] w fun e w' => e = .returned (.bool true) ∧ w = w' := by
  go_enter Try.func31, Try.ntmps31
  go_wp2_with fail
  refine (none_yes v w h).mono ?_
  rintro e w' ⟨rfl, rfl⟩
  go_wp2_with fail
  refine (none_yes v w h).mono ?_
  rintro e w' ⟨rfl, rfl⟩
  go_wp2_with fail
  refine (none_yes u w h').mono ?_
  rintro e w' ⟨rfl, rfl⟩
  go_wp2
  go_ret
  exact ⟨rfl, rfl⟩

set_option maxHeartbeats 400000 in
theorem same_none_made (v : Value) (b : Nat) (w : World) (h : IsNone w v) (hm : w.cell? ⟨b, 0, none⟩ = some (.bool true)) : Calls Try.prog 31 #[v, .pointer (some ⟨b, 0, none⟩)] w fun e w' => e = .returned (.bool false) ∧ w = w' := by
  go_enter Try.func31, Try.ntmps31
  go_wp2_with fail
  refine (none_yes v w h).mono ?_
  rintro e w' ⟨rfl, rfl⟩
  go_wp2_with fail
  refine (none_yes v w h).mono ?_
  rintro e w' ⟨rfl, rfl⟩
  go_wp2_with fail
  refine (none_no b w hm).mono ?_
  rintro e w' ⟨rfl, rfl⟩
  go_wp2
  go_ret
  exact ⟨rfl, rfl⟩

set_option maxHeartbeats 400000 in
theorem same_made_none (v : Value) (b : Nat) (w : World) (h : IsNone w v) (hm : w.cell? ⟨b, 0, none⟩ = some (.bool true)) : Calls Try.prog 31 #[.pointer (some ⟨b, 0, none⟩), v] w fun e w' => e = .returned (.bool false) ∧ w = w' := by
  go_enter Try.func31, Try.ntmps31
  go_wp2_with fail
  refine (none_no b w hm).mono ?_
  rintro e w' ⟨rfl, rfl⟩
  go_wp2_with fail
  refine (none_yes v w h).mono ?_
  rintro e w' ⟨rfl, rfl⟩
  go_wp2_with fail
  refine (none_no b w hm).mono ?_
  rintro e w' ⟨rfl, rfl⟩
  go_wp2
  go_ret
  exact ⟨rfl, rfl⟩

end Go.Proofs.Ytbclgklpcbajfaa
