/- disk's functions at a nil disk, and at one that is a zero value. -/
import Derived.Test.YtdccbceaajnajaaD1
namespace Go.Proofs.Ytdccbceaajnajaa
open Go.RowKit
set_option linter.unusedSimpArgs false
set_option linter.unusedVariables false

/-- A nil disk, or one that was not made. -/
def IsNone (w : World) (v : Value) : Prop := v = .pointer none ∨ ∃ b, v = .pointer (some ⟨b, 0, none⟩) ∧ w.cell? ⟨b, 0, none⟩ = some (.bool false)

set_option maxHeartbeats 400000 in
theorem none_yes (v : Value) (w : World) (h : IsNone w v) : Calls Try.prog 45 #[v] w fun e w' => e = .returned (.bool true) ∧ w = w' := by
  rcases h with rfl | ⟨b, rfl, hc⟩
  · go_enter Try.func45, Try.ntmps45
    go_wp2
    go_ret
    exact ⟨rfl, rfl⟩
  · go_enter Try.func45, Try.ntmps45
    go_wp2
    go_ret
    exact ⟨rfl, rfl⟩

theorem IsNone.new {w w' : World} {v : Value} (h : IsNone w v) (hn : New w w') (hb : ∀ b, v = .pointer (some ⟨b, 0, none⟩) → b < w.heap.size) : IsNone w' v := by
  rcases h with h | ⟨b, e, hc⟩
  · exact .inl h
  · exact .inr ⟨b, e, (hn.cell b 0 (hb b e)).trans hc⟩
theorem IsNone.alloc {w : World} {v : Value} (h : IsNone w v) (o : Obj) : IsNone (w.alloc o) v := by
  rcases h with h | ⟨b, e, hc⟩
  · exact .inl h
  · have hb : b < w.heap.size := World.block_lt_of_cell? w _ hc
    exact .inr ⟨b, e, by rw [World.cell?_alloc_past _ _ _ hb]; exact hc⟩

set_option maxHeartbeats 400000 in
theorem read_none (v : Value) (n : Int) (w : World) (h : IsNone w v) : Calls Try.prog 29 #[v, .int .i64 n] w fun e w' => e = .returned (.tuple #[.slice none 0 0, .int .i64 6]) ∧ w = w' := by
  go_enter Try.func29, Try.ntmps29
  go_wp2_with fail
  refine (none_yes v w h).mono ?_
  rintro e w' ⟨rfl, rfl⟩
  go_wp2
  go_ret2
  exact ⟨rfl, rfl⟩

set_option maxHeartbeats 400000 in
theorem write_none (v : Value) (n : Int) (u : Value) (w : World) (h : IsNone w v) : Calls Try.prog 31 #[v, .int .i64 n, u] w fun e w' => e = .returned (.int .i64 6) ∧ w = w' := by
  go_enter Try.func31, Try.ntmps31
  go_wp2_with fail
  refine (none_yes v w h).mono ?_
  rintro e w' ⟨rfl, rfl⟩
  go_wp2
  go_ret
  exact ⟨rfl, rfl⟩

set_option maxHeartbeats 400000 in
theorem flush_none (v : Value)  (w : World) (h : IsNone w v) : Calls Try.prog 32 #[v] w fun e w' => e = .returned (.int .i64 6) ∧ w = w' := by
  go_enter Try.func32, Try.ntmps32
  go_wp2_with fail
  refine (none_yes v w h).mono ?_
  rintro e w' ⟨rfl, rfl⟩
  go_wp2
  go_ret
  exact ⟨rfl, rfl⟩

set_option maxHeartbeats 400000 in
theorem down_none (v : Value)  (w : World) (h : IsNone w v) : Calls Try.prog 35 #[v] w fun e w' => e = .returned (.bool true) ∧ w = w' := by
  go_enter Try.func35, Try.ntmps35
  go_wp2_with fail
  refine (none_yes v w h).mono ?_
  rintro e w' ⟨rfl, rfl⟩
  go_wp2
  go_ret
  exact ⟨rfl, rfl⟩

set_option maxHeartbeats 400000 in
theorem copy_none (v : Value)  (w : World) (h : IsNone w v) : Calls Try.prog 33 #[v] w fun e w' => e = .returned (.pointer none) ∧ w = w' := by
  go_enter Try.func33, Try.ntmps33
  go_wp2_with fail
  refine (none_yes v w h).mono ?_
  rintro e w' ⟨rfl, rfl⟩
  go_wp2
  go_ret
  exact ⟨rfl, rfl⟩

end Go.Proofs.Ytdccbceaajnajaa
