/- Nil tapes: what each function returns; Open of a nil disk. -/
import Derived.Test.YtbclgklpcbajfaaD13
import Derived.Laws.ResultCell
import Derived.Laws.Rows
namespace Go.Proofs.Ytbclgklpcbajfaa
open Go.RowKit
set_option linter.unusedSimpArgs false
set_option linter.unusedVariables false

theorem size25 : (Try.prog.info? 25).map (·.size) = some 10 := by kernel_rfl
theorem cell_tmp_res {fn : Func} {p u : Tmp} (h : fn.results = #[.cell p 25, .tmp u]) (tmps : Array Value) (w : World) (g : Nat) (t : TypeId) (cs : Array Value) (fr : Nat × Nat)
    (hp : tmps.getD p undef = .pointer (some ⟨g, 0, none⟩)) (hg : w.heap[g]? = some (.cells cs t fr)) (hi : cs.size = 10) :
    (results fn tmps).run Try.prog w = .ok (.tuple #[.agg cs, tmps.getD u undef]) w := by
  have hp' : tmps[p]?.getD undef = .pointer (some ⟨g, 0, none⟩) := by simpa using hp
  rw [results_cell_tmp h]
  simp [hp', asAddr, run_loadVar_row w g t 25 cs fr _ hg Try.underlying25 rfl (by rw [hi]; exact size25)]
def rec0 : Rec := ⟨0, 0, 0, 0, ByteArray.empty, ByteArray.empty, 0, 0, ByteArray.empty, []⟩
theorem tnone_nil (w : World) : Calls Try.prog 108 #[.pointer none] w fun e w' => e = .returned (.bool true) ∧ w = w' := by
  go_enter Try.func108, Try.ntmps108
  go_wp2
  go_ret
  exact ⟨rfl, rfl⟩
theorem tforce_nil (w : World) : Calls Try.prog 48 #[.pointer none] w fun e w' => e = .returned (.int .i64 6) ∧ New w w' := by
  go_enter Try.func48, Try.ntmps48
  go_wp2_with fail
  refine (tnone_nil w).mono ?_
  rintro e w' ⟨rfl, rfl⟩
  go_wp2
  go_ret
  exact ⟨rfl, New.refl _⟩
theorem trecords_nil (w : World) : Calls Try.prog 49 #[.pointer none] w fun e w' => e = .returned (.slice none 0 0) ∧ New w w' := by
  go_enter Try.func49, Try.ntmps49
  go_wp2_with fail
  refine (tnone_nil w).mono ?_
  rintro e w' ⟨rfl, rfl⟩
  go_wp2
  go_ret
  exact ⟨rfl, New.refl _⟩
theorem tlast_nil (w : World) : Calls Try.prog 50 #[.pointer none] w fun e w' => e = .returned (.int .i64 0) ∧ New w w' := by
  go_enter Try.func50, Try.ntmps50
  go_wp2_with fail
  refine (tnone_nil w).mono ?_
  rintro e w' ⟨rfl, rfl⟩
  go_wp2
  go_ret
  exact ⟨rfl, New.refl _⟩
theorem tforced_nil (w : World) : Calls Try.prog 51 #[.pointer none] w fun e w' => e = .returned (.int .i64 0) ∧ New w w' := by
  go_enter Try.func51, Try.ntmps51
  go_wp2_with fail
  refine (tnone_nil w).mono ?_
  rintro e w' ⟨rfl, rfl⟩
  go_wp2
  go_ret
  exact ⟨rfl, New.refl _⟩
theorem tfree_nil (w : World) : Calls Try.prog 52 #[.pointer none] w fun e w' => e = .returned (.int .i64 0) ∧ New w w' := by
  go_enter Try.func52, Try.ntmps52
  go_wp2_with fail
  refine (tnone_nil w).mono ?_
  rintro e w' ⟨rfl, rfl⟩
  go_wp2
  go_ret
  exact ⟨rfl, New.refl _⟩
theorem tappend_nil (r : Rec) (bv av uv : Value) (w : World) : Calls Try.prog 46 #[.pointer none, .agg (recCells r bv av uv)] w fun e w' => e = .returned (.tuple #[.int .i64 0, .int .i64 6]) ∧ New w w' := by
  go_enter Try.func46, Try.ntmps46
  go_wp2_with fail
  refine (tnone_nil _).mono ?_
  rintro e w' ⟨rfl, rfl⟩
  go_wp2
  go_ret2
  exact ⟨rfl, (New.refl w).alloc _ _⟩
theorem trecord_nil (n : Int) (w : World) : Calls Try.prog 47 #[.pointer none, .int .i64 n] w fun e w' => e = .returned (.tuple #[.agg (recCells rec0 (.slice none 0 0) (.slice none 0 0) (.slice none 0 0)), .int .i64 6]) ∧ New w w' := by
  go_enter Try.func47, Try.ntmps47
  go_wp2_with fail
  refine (tnone_nil _).mono ?_
  rintro e w' ⟨rfl, rfl⟩
  go_wp2
  (try simp only [Exit.inBlock, Exit.then])
  refine bodyPost_ret (cell_tmp_res rfl _ _ w.heap.size 25 (recCells rec0 (.slice none 0 0) (.slice none 0 0) (.slice none 0 0)) (0, 0) rfl (heap_alloc_new w _) rfl) rfl ?_
  exact ⟨rfl, (New.refl w).alloc _ _⟩

/-- Open of a nil disk. -/
theorem open_nil (w : World) : Calls Try.prog 45 #[.pointer none] w fun e w' => e = .returned (.tuple #[.pointer none, .int .i64 6]) ∧ New w w' := by
  go_enter Try.func45, Try.ntmps45
  go_wp2
  obtain ⟨w1, hw1⟩ : ∃ w1 : World, w1 = w.alloc (.cells #[.pointer none, .slice none 0 0, .int .i64 0, .bool false] 130) := ⟨_, rfl⟩
  have HN := hid (show New w w1 by rw [hw1]; exact (New.refl w).alloc _ _)
  rw [← hw1]
  clear hw1
  go_loopw [7] (fun i wr => i = .int .i64 1 ∧ w1 = wr) (fun _ _ => 0)
  case atStart => exact ⟨rfl, rfl⟩
  case round =>
    obtain ⟨rfl, rfl⟩ := hrel
    go_wp2_with fail
    refine (read_none _ _ w1 (.inl rfl)).mono ?_
    rintro e w2 ⟨rfl, rfl⟩
    go_wp2
    go_ret2
    exact ⟨rfl, HN.out⟩

end Go.Proofs.Ytbclgklpcbajfaa
