/- Nil tapes: what each function returns; Open of a nil disk. -/
import Derived.Test.YtdccbceaajnajaaD13
import Derived.Laws.ResultCell
import Derived.Laws.Rows
namespace Go.Proofs.Ytdccbceaajnajaa
open Go.RowKit
set_option linter.unusedSimpArgs false
set_option linter.unusedVariables false

theorem size25 : (Try.prog.info? 69).map (·.size) = some 10 := by kernel_rfl
theorem cell_tmp_res {fn : Func} {p u : Tmp} (h : fn.results = #[.cell p 69, .tmp u]) (tmps : Array Value) (w : World) (g : Nat) (t : TypeId) (cs : Array Value) (fr : Nat × Nat)
    (hp : tmps.getD p undef = .pointer (some ⟨g, 0, none⟩)) (hg : w.heap[g]? = some (.cells cs t fr)) (hi : cs.size = 10) :
    (results fn tmps).run Try.prog w = .ok (.tuple #[.agg cs, tmps.getD u undef]) w := by
  have hp' : tmps[p]?.getD undef = .pointer (some ⟨g, 0, none⟩) := by simpa using hp
  rw [results_cell_tmp h]
  simp [hp', asAddr, run_loadVar_row w g t 69 cs fr _ hg Try.underlying69 rfl (by rw [hi]; exact size25)]
def rec0 : Rec := ⟨0, 0, 0, 0, ByteArray.empty, ByteArray.empty, 0, 0, ByteArray.empty, []⟩
theorem tnone_nil (w : World) : Calls Try.prog 61 #[.pointer none] w fun e w' => e = .returned (.bool true) ∧ w = w' := by
  go_enter Try.func61, Try.ntmps61
  go_wp2
  go_ret
  exact ⟨rfl, rfl⟩
theorem tforce_nil (w : World) : Calls Try.prog 63 #[.pointer none] w fun e w' => e = .returned (.int .i64 6) ∧ New w w' := by
  go_enter Try.func63, Try.ntmps63
  go_wp2_with fail
  refine (tnone_nil w).mono ?_
  rintro e w' ⟨rfl, rfl⟩
  go_wp2
  go_ret
  exact ⟨rfl, New.refl _⟩
theorem tlast_nil (w : World) : Calls Try.prog 37 #[.pointer none] w fun e w' => e = .returned (.int .i64 0) ∧ New w w' := by
  go_enter Try.func37, Try.ntmps37
  go_wp2_with fail
  refine (tnone_nil w).mono ?_
  rintro e w' ⟨rfl, rfl⟩
  go_wp2
  go_ret
  exact ⟨rfl, New.refl _⟩
theorem tforced_nil (w : World) : Calls Try.prog 62 #[.pointer none] w fun e w' => e = .returned (.int .i64 0) ∧ New w w' := by
  go_enter Try.func62, Try.ntmps62
  go_wp2_with fail
  refine (tnone_nil w).mono ?_
  rintro e w' ⟨rfl, rfl⟩
  go_wp2
  go_ret
  exact ⟨rfl, New.refl _⟩
/-- Open of a nil disk. -/
theorem open_nil (w : World) : Calls Try.prog 11 #[.pointer none] w fun e w' => e = .returned (.tuple #[.pointer none, .int .i64 6]) ∧ New w w' := by
  go_enter Try.func11, Try.ntmps11
  go_wp2
  obtain ⟨w1, hw1⟩ : ∃ w1 : World, w1 = w.alloc (.cells #[.pointer none, .slice none 0 0, .int .i64 0, .bool false] 66) := ⟨_, rfl⟩
  have HN := hid (show New w w1 by rw [hw1]; exact (New.refl w).alloc _ _)
  rw [← hw1]
  clear hw1
  go_loopw [7] (fun i wr => i = .int .i64 1 ∧ w1 = wr) (fun _ _ => 0)
  case atStart => exact ⟨rfl, rfl⟩
  case round =>
    obtain ⟨rfl, rfl⟩ := hrel
    go_wp2_with fail
    refine (read_none _ _ w1 (.inl rfl)).mono ?_
    rintro e w2 ⟨rfl, rfl⟩
    go_wp2
    go_ret2
    exact ⟨rfl, HN.out⟩

end Go.Proofs.Ytdccbceaajnajaa
