/- The law's Awake (the disk). -/
import Derived.Test.YtbclgklpcbajfaaD11
import Derived.Lib.SmallJoins
namespace Go.Proofs.Ytbclgklpcbajfaa
open Go.RowKit
set_option linter.unusedSimpArgs false
set_option linter.unusedVariables false

theorem bools_one (w : World) : Bools (w.alloc (.cells #[.bool true] 4)) (.slice (some ⟨w.heap.size, 0, none⟩) 1 1) [true] := RowAt.made w [.bool true] 4 1 (by unfold maxLen; omega)

theorem RowAt.marked (w : World) (xs : List Value) (t : TypeId) (fr : Nat × Nat) (n : Nat) (hm : n ≤ maxLen) : RowAt (w.alloc (.cells xs.toArray t fr)) (.slice (some ⟨w.heap.size, 0, none⟩) n n) n xs :=
  ⟨_, n, rfl, Nat.le_refl _, hm, fun _ => ⟨_, 0, rfl, by simp, fun i hi => by rw [Nat.zero_add, World.cell?_alloc_mark]; simp [List.getD, hi]⟩⟩
theorem Content.marked (w : World) (s : ByteArray) (n : Nat) (xs : List Value) (fr : Nat × Nat) (hn : s.size = n) (hm : n ≤ maxLen) (hx : byteVals s = xs) : Content (w.alloc (.cells xs.toArray 5 fr)) (.slice (some ⟨w.heap.size, 0, none⟩) n n) s := by
  subst hn hx
  exact ⟨RowAt.marked w _ 5 fr s.size hm, fun k hk => by simp only [Value.ownBlock, Option.some.injEq] at hk; subst hk; exact ⟨_, _, World.alloc_heap_new w _⟩⟩
theorem New.obj {w0 w : World} (h : New w0 w) (o : Obj) : New w0 (w.alloc o) := Below.alloc h h.size o

set_option maxHeartbeats 4000000 in
set_option maxRecDepth 100000 in
theorem awake_any (w : World) : Calls Try.prog 20 #[] w fun e w' => e = .returned (.bool true) ∧ New w w' := by
  have F := hid wake_facts
  go_enter Try.func20, Try.ntmps20
  go_wp2_with fail
  refine (new_any _).mono ?_
  rintro e w1 ⟨rfl, hw1⟩
  have M1 := hid (Mine.made w w (New.refl w))
  rw [← hw1] at M1
  clear hw1
  have hc1 := Lib.run_convert_bytes_const (P := Try.prog) w1 22 5 #[.int .u8 97, .int .u8 98, .int .u8 99] 3 3 Try.underlying22 Try.underlying5
  go_wp2_with fail
  have M2 := hid (M1.out.newer ((New.refl w1).obj (.cells #[.int .u8 97, .int .u8 98, .int .u8 99] 5 (3, 4))))
  refine (write_any w.heap.size _ newA 5 _ abc _ M2.out.disk (Content.marked w1 abc 3 [.int .u8 97, .int .u8 98, .int .u8 99] (3, 4) rfl (by unfold maxLen; omega) rfl).1 (fun _ k hk => by simp only [Value.ownBlock, Option.some.injEq] at hk; subst hk; have := M1.out.disk.lt; omega) (by decide) (by decide) (by decide)).mono ?_
  intro e w2 h2
  obtain ⟨o2, rfl, M3⟩ := M2.out.moved h2
  clear h2
  rw [F.out.1]
  have M3 := hid M3
  go_wp2_with fail
  refine (flush_any w.heap.size o2 wake1 _ M3.out.disk (by rw [F.out.2.2.2.2.2.2.2.2.1]; decide) (by rw [F.out.2.2.2.2.2.2.2.2.2.1]; decide) (by rw [F.out.2.2.2.2.2.1]; decide)).mono ?_
  intro e w3 h3
  obtain ⟨o3, rfl, M4⟩ := M3.out.moved h3
  clear h3
  rw [F.out.2.1]
  have M4 := hid M4
  have hc3 := Lib.run_convert_bytes_const (P := Try.prog) w3 22 5 #[.int .u8 120, .int .u8 121] 2 2 Try.underlying22 Try.underlying5
  clear M1 M2 M3
  go_wp2_with fail
  have M5 := hid (M4.out.newer ((New.refl w3).obj (.cells #[.int .u8 120, .int .u8 121] 5 (2, 3))))
  refine (write_any w.heap.size o3 wake2 5 _ xy _ M5.out.disk (Content.marked w3 xy 2 [.int .u8 120, .int .u8 121] (2, 3) rfl (by unfold maxLen; omega) rfl).1 (fun _ k hk => by simp only [Value.ownBlock, Option.some.injEq] at hk; subst hk; have := M4.out.disk.lt; omega) (by decide) (by decide) (by decide)).mono ?_
  intro e w4 h4
  obtain ⟨o4, rfl, M6⟩ := M5.out.moved h4
  clear h4
  rw [F.out.2.2.1]
  have M6 := hid M6
  clear M4 M5
  go_wp2_with fail
  have M7 := hid (M6.out.newer ((New.refl w4).alloc #[.bool true] 4))
  refine (crash_any w.heap.size o4 wake3 _ [true] 1 _ M7.out.disk wake3_small (by decide) (by decide) (bools_one w4) (fun _ g hg => by simp only [Value.ownBlock, Option.some.injEq] at hg; subst hg; have := M6.out.disk.lt; omega) (by decide)).mono ?_
  intro e w5 h5
  obtain ⟨o5, rfl, M8⟩ := M7.out.moved h5
  clear h5
  have M8 := hid M8
  clear M6 M7
  go_wp2_with fail
  refine (start_any w.heap.size o5 wake4 _ M8.out.disk).mono ?_
  intro e w6 h6
  obtain ⟨rfl, M9⟩ := M8.out.back h6
  clear h6
  have M9 := hid M9
  clear M8
  go_wp2_with fail
  refine (read_any w.heap.size o5 wake5 5 _ M9.out.disk wake5_small (by decide)).mono ?_
  rintro e w7 ⟨v, rfl, hv, hn7⟩
  rw [F.out.2.2.2.1]
  have hcv := hv.1.convert (P := Try.prog) 22 5 9 Try.underlying22 Try.underlying5 Try.underlying9
  rw [F.out.2.2.2.2.1] at hcv
  have HN := hid (M9.out.new.trans hn7)
  clear M9 hn7 hv
  go_wp2
  go_ret
  exact ⟨rfl, HN.out⟩

end Go.Proofs.Ytbclgklpcbajfaa
