/- Nil pools and zero ones, each function; PoolNils' walk. -/
import Derived.Test.YtdccbceaajnajaaQ8
namespace Go.Proofs.Ytdccbceaajnajaa
open Go.RowKit
set_option linter.unusedSimpArgs false
set_option linter.unusedVariables false

/-- A nil pool, or a zero one. -/
def Idle (w : World) (v : Value) : Prop := v = .pointer none ∨ ∃ k, v = .pointer (some ⟨k, 0, none⟩) ∧ w.cell? ⟨k, 2, none⟩ = some (.int .i64 0)
theorem none_idle (v : Value) (w : World) (h : Idle w v) : Calls Try.prog 39 #[v] w fun e w' => e = .returned (.bool true) ∧ w = w' := by
  rcases h with rfl | ⟨k, rfl, hk⟩
  · go_enter Try.func39, Try.ntmps39
    go_wp2
    go_ret
    exact ⟨rfl, rfl⟩
  · go_enter Try.func39, Try.ntmps39
    go_wp2
    go_ret
    exact ⟨rfl, rfl⟩
theorem asked_idle (v : Value) (n : Int) (w : World) (h : Idle w v) : Calls Try.prog 34 #[v, .int .i64 n] w fun e w' => e = .returned (.int .i64 6) ∧ w = w' := by
  go_enter Try.func34, Try.ntmps34
  go_wp2_with fail
  refine (none_idle v _ h).mono ?_
  rintro e w' ⟨rfl, rfl⟩
  go_wp2
  go_ret
  exact ⟨rfl, rfl⟩
theorem page_idle (v : Value) (n : Int) (w : World) (h : Idle w v) : Calls Try.prog 13 #[v, .int .i64 n] w fun e w' => e = .returned (.tuple #[.slice none 0 0, .int .i64 0, .int .i64 6]) ∧ w = w' := by
  go_enter Try.func13, Try.ntmps13
  go_wp2_with fail
  refine (asked_idle v n _ h).mono ?_
  rintro e w' ⟨rfl, rfl⟩
  go_wp2
  go_ret3
  exact ⟨rfl, rfl⟩
theorem set_idle (v u : Value) (n m : Int) (w : World) (h : Idle w v) : Calls Try.prog 14 #[v, .int .i64 n, u, .int .i64 m] w fun e w' => e = .returned (.int .i64 6) ∧ w = w' := by
  go_enter Try.func14, Try.ntmps14
  go_wp2_with fail
  refine (asked_idle v n _ h).mono ?_
  rintro e w' ⟨rfl, rfl⟩
  go_wp2
  go_ret
  exact ⟨rfl, rfl⟩
theorem out_idle (v : Value) (n : Int) (w : World) (h : Idle w v) : Calls Try.prog 15 #[v, .int .i64 n] w fun e w' => e = .returned (.int .i64 6) ∧ w = w' := by
  go_enter Try.func15, Try.ntmps15
  go_wp2_with fail
  refine (asked_idle v n _ h).mono ?_
  rintro e w' ⟨rfl, rfl⟩
  go_wp2
  go_ret
  exact ⟨rfl, rfl⟩
theorem clean_idle (v : Value) (w : World) (h : Idle w v) : Calls Try.prog 16 #[v] w fun e w' => e = .returned (.int .i64 6) ∧ w = w' := by
  go_enter Try.func16, Try.ntmps16
  go_wp2_with fail
  refine (none_idle v _ h).mono ?_
  rintro e w' ⟨rfl, rfl⟩
  go_wp2
  go_ret
  exact ⟨rfl, rfl⟩
theorem frames_idle (v : Value) (w : World) (h : Idle w v) : Calls Try.prog 17 #[v] w fun e w' => e = .returned (.slice none 0 0) ∧ w = w' := by
  go_enter Try.func17, Try.ntmps17
  go_wp2_with fail
  refine (none_idle v _ h).mono ?_
  rintro e w' ⟨rfl, rfl⟩
  go_wp2
  go_ret
  exact ⟨rfl, rfl⟩
theorem dirty_idle (v : Value) (w : World) (h : Idle w v) : Calls Try.prog 18 #[v] w fun e w' => e = .returned (.slice none 0 0) ∧ w = w' := by
  go_enter Try.func18, Try.ntmps18
  go_wp2_with fail
  refine (none_idle v _ h).mono ?_
  rintro e w' ⟨rfl, rfl⟩
  go_wp2
  go_ret
  exact ⟨rfl, rfl⟩
theorem reads_idle (v : Value) (w : World) (h : Idle w v) : Calls Try.prog 19 #[v] w fun e w' => e = .returned (.int .i64 0) ∧ w = w' := by
  go_enter Try.func19, Try.ntmps19
  go_wp2_with fail
  refine (none_idle v _ h).mono ?_
  rintro e w' ⟨rfl, rfl⟩
  go_wp2
  go_ret
  exact ⟨rfl, rfl⟩
theorem pnew_nil1 (v : Value) (n : Int) (w : World) : Calls Try.prog 12 #[.pointer none, v, .int .i64 n] w fun e w' => e = .returned (.tuple #[.pointer none, .int .i64 6]) ∧ w = w' := by
  go_enter Try.func12, Try.ntmps12
  go_wp2
  go_ret2
  exact ⟨rfl, rfl⟩
theorem pnew_nil2 (a : Addr) (n : Int) (w : World) : Calls Try.prog 12 #[.pointer (some a), .pointer none, .int .i64 n] w fun e w' => e = .returned (.tuple #[.pointer none, .int .i64 6]) ∧ w = w' := by
  go_enter Try.func12, Try.ntmps12
  go_wp2
  go_ret2
  exact ⟨rfl, rfl⟩
/-- What New gives for a number of frames. -/
theorem PNewBack.what {b tb : Nat} {n : Int} {w w' : World} {e : Ending} (h : PNewBack b tb n w e w') : New w w' ∧ ((2 ≤ n ∧ n ≤ 16 ∧ ∃ pb, e = .returned (.tuple #[.pointer (some ⟨pb, 0, none⟩), .int .i64 0])) ∨ (¬ (2 ≤ n ∧ n ≤ 16) ∧ e = .returned (.tuple #[.pointer none, .int .i64 2]))) := by
  obtain ⟨hn, h1, h2⟩ := h
  refine ⟨hn, ?_⟩
  by_cases hc : 2 ≤ n ∧ n ≤ 16
  · obtain ⟨pb, _, he, _⟩ := h1 hc
    exact .inl ⟨hc.1, hc.2, pb, he⟩
  · exact .inr ⟨hc, h2 hc⟩

set_option maxHeartbeats 1600000 in
set_option maxRecDepth 100000 in
theorem poolNils_any (v1 : Value) (n : Int) (s1 : ByteArray) (w : World) (h1 : Bytes w v1 s1) : Calls Try.prog 4 #[.int .i64 n, v1] w fun e w' => e = .returned (.bool true) ∧ New w w' := by
  have H1 := hid h1
  obtain ⟨p1, c1, rfl, a1, b1, -⟩ := h1
  unfold maxLen at b1
  by_cases g0 : 400 < s1.size
  · have q0 : decide (400 < s1.size) = true := by simpa using g0
    have q1 : decide ((400 : Int) < (s1.size : Int)) = true := by simp; omega
    clear g0
    go_enter Try.func4, Try.ntmps4
    go_wp2_with fail
    refine (pawake_any _).mono ?_
    rintro e w2 ⟨rfl, n2⟩
    go_wp2
    go_ret
    exact ⟨rfl, n2⟩
  have q0 : decide (400 < s1.size) = false := by simpa using g0
  have q1 : decide ((400 : Int) < (s1.size : Int)) = false := by simp; omega
  go_enter Try.func4, Try.ntmps4
  go_wp2_with fail
  refine (new_any _).mono ?_
  rintro e w2 ⟨rfl, rfl⟩
  have M1 := hid (Mine.made w w (New.refl w))
  go_wp2_with fail
  refine (open_any w w.heap.size none newA 0 _ M1.out calm_new (by omega)).mono ?_
  rintro e w3 ⟨ow3, tb, ot3, rfl, hL3, ht3, -, htb3, hot3⟩
  rw [HasLog.new.opened.1, HasLog.new.opened.2] at hL3
  have L3 := hid hL3
  clear hL3 ht3 htb3 hot3 M1 q0 q1 g0
  generalize w.heap.size = b at L3 ⊢
  go_wp2_with fail
  refine (pnew_any b ow3 newA tb n _ L3.out.disk (by decide)).mono ?_
  intro e w4 hp4
  obtain ⟨n4, hc⟩ := hp4.what
  have N4 := hid (L3.out.new.trans n4)
  clear hp4 n4 L3
  rcases hc with ⟨z1, z2, pb, rfl⟩ | ⟨z, rfl⟩
  · have q1 : decide (2 ≤ n) = true := by simpa using z1
    have q2 : decide (n ≤ 16) = true := by simpa using z2
    clear z1 z2
    go_wp2_with fail
    refine (pnew_nil1 _ n _).mono ?_
    rintro e w' ⟨rfl, rfl⟩
    go_wp2_with fail
    refine (pnew_nil2 _ n _).mono ?_
    rintro e w' ⟨rfl, rfl⟩
    go_wp2_with fail
    clear q1 q2
    have nz := (New.refl w4).alloc #[.pointer none, .pointer none, .int .i64 0, .slice none 0 0, .int .i64 0] 40
    have nr := (New.refl (w4.alloc (.cells #[.pointer none, .pointer none, .int .i64 0, .slice none 0 0, .int .i64 0] 40))).alloc #[.pointer none, .pointer (some ⟨w4.heap.size, 0, none⟩)] 35
    have hz := (Below.block nr _ (by simp)).trans (heap_alloc_new w4 (.cells #[.pointer none, .pointer none, .int .i64 0, .slice none 0 0, .int .i64 0] 40))
    have hr := heap_alloc_new (w4.alloc (.cells #[.pointer none, .pointer none, .int .i64 0, .slice none 0 0, .int .i64 0] 40)) (.cells #[.pointer none, .pointer (some ⟨w4.heap.size, 0, none⟩)] 35)
    rw [show (w4.alloc (.cells #[.pointer none, .pointer none, .int .i64 0, .slice none 0 0, .int .i64 0] 40)).heap.size = w4.heap.size + 1 by simp] at hr
    have N5 := hid (N4.out.trans (nz.trans nr))
    clear nz nr
    generalize (w4.alloc (.cells #[.pointer none, .pointer none, .int .i64 0, .slice none 0 0, .int .i64 0] 40)).alloc (.cells #[.pointer none, .pointer (some ⟨w4.heap.size, 0, none⟩)] 35) = w5 at *
    have i0 : Hid (Idle w5 (.pointer none)) := hid (.inl rfl)
    have i1 : Hid (Idle w5 (.pointer (some ⟨w4.heap.size, 0, none⟩))) := hid (.inr ⟨_, rfl, cells_of hz 2⟩)
    have g0 := cells_of hr 0
    have g1 := cells_of hr 1
    clear hz hr
    refine wp_loop_rounds 3 ?_
    rw [rounds_succ]
    go_wp2_with fail
    refine (page_idle _ n _ i0.out).mono ?_
    rintro e w' ⟨rfl, rfl⟩
    go_wp2_with fail
    refine (set_idle _ _ n n _ i0.out).mono ?_
    rintro e w' ⟨rfl, rfl⟩
    go_wp2_with fail
    refine (out_idle _ n _ i0.out).mono ?_
    rintro e w' ⟨rfl, rfl⟩
    go_wp2_with fail
    refine (clean_idle _ _ i0.out).mono ?_
    rintro e w' ⟨rfl, rfl⟩
    go_wp2_with fail
    refine (frames_idle _ _ i0.out).mono ?_
    rintro e w' ⟨rfl, rfl⟩
    go_wp2_with fail
    refine (dirty_idle _ _ i0.out).mono ?_
    rintro e w' ⟨rfl, rfl⟩
    go_wp2_with fail
    refine (reads_idle _ _ i0.out).mono ?_
    rintro e w' ⟨rfl, rfl⟩
    go_wp2
    rw [rounds_succ]
    go_wp2_with fail
    refine (page_idle _ n _ i1.out).mono ?_
    rintro e w' ⟨rfl, rfl⟩
    go_wp2_with fail
    refine (set_idle _ _ n n _ i1.out).mono ?_
    rintro e w' ⟨rfl, rfl⟩
    go_wp2_with fail
    refine (out_idle _ n _ i1.out).mono ?_
    rintro e w' ⟨rfl, rfl⟩
    go_wp2_with fail
    refine (clean_idle _ _ i1.out).mono ?_
    rintro e w' ⟨rfl, rfl⟩
    go_wp2_with fail
    refine (frames_idle _ _ i1.out).mono ?_
    rintro e w' ⟨rfl, rfl⟩
    go_wp2_with fail
    refine (dirty_idle _ _ i1.out).mono ?_
    rintro e w' ⟨rfl, rfl⟩
    go_wp2_with fail
    refine (reads_idle _ _ i1.out).mono ?_
    rintro e w' ⟨rfl, rfl⟩
    go_wp2
    rw [rounds_succ]
    go_wp2_with fail
    refine (pawake_any _).mono ?_
    rintro e w9 ⟨rfl, n9⟩
    go_wp2
    go_ret
    exact ⟨rfl, N5.out.trans n9⟩
  · have hz2 : n < 2 ∨ 16 < n := by omega
    rcases hz2 with z | z
    · have q1 : decide (2 ≤ n) = false := by simp; omega
      clear z
      go_wp2_with fail
      refine (pnew_nil1 _ n _).mono ?_
      rintro e w' ⟨rfl, rfl⟩
      go_wp2_with fail
      refine (pnew_nil2 _ n _).mono ?_
      rintro e w' ⟨rfl, rfl⟩
      go_wp2_with fail
      clear q1
      have nz := (New.refl w4).alloc #[.pointer none, .pointer none, .int .i64 0, .slice none 0 0, .int .i64 0] 40
      have nr := (New.refl (w4.alloc (.cells #[.pointer none, .pointer none, .int .i64 0, .slice none 0 0, .int .i64 0] 40))).alloc #[.pointer none, .pointer (some ⟨w4.heap.size, 0, none⟩)] 35
      have hz := (Below.block nr _ (by simp)).trans (heap_alloc_new w4 (.cells #[.pointer none, .pointer none, .int .i64 0, .slice none 0 0, .int .i64 0] 40))
      have hr := heap_alloc_new (w4.alloc (.cells #[.pointer none, .pointer none, .int .i64 0, .slice none 0 0, .int .i64 0] 40)) (.cells #[.pointer none, .pointer (some ⟨w4.heap.size, 0, none⟩)] 35)
      rw [show (w4.alloc (.cells #[.pointer none, .pointer none, .int .i64 0, .slice none 0 0, .int .i64 0] 40)).heap.size = w4.heap.size + 1 by simp] at hr
      have N5 := hid (N4.out.trans (nz.trans nr))
      clear nz nr
      generalize (w4.alloc (.cells #[.pointer none, .pointer none, .int .i64 0, .slice none 0 0, .int .i64 0] 40)).alloc (.cells #[.pointer none, .pointer (some ⟨w4.heap.size, 0, none⟩)] 35) = w5 at *
      have i0 : Hid (Idle w5 (.pointer none)) := hid (.inl rfl)
      have i1 : Hid (Idle w5 (.pointer (some ⟨w4.heap.size, 0, none⟩))) := hid (.inr ⟨_, rfl, cells_of hz 2⟩)
      have g0 := cells_of hr 0
      have g1 := cells_of hr 1
      clear hz hr
      refine wp_loop_rounds 3 ?_
      rw [rounds_succ]
      go_wp2_with fail
      refine (page_idle _ n _ i0.out).mono ?_
      rintro e w' ⟨rfl, rfl⟩
      go_wp2_with fail
      refine (set_idle _ _ n n _ i0.out).mono ?_
      rintro e w' ⟨rfl, rfl⟩
      go_wp2_with fail
      refine (out_idle _ n _ i0.out).mono ?_
      rintro e w' ⟨rfl, rfl⟩
      go_wp2_with fail
      refine (clean_idle _ _ i0.out).mono ?_
      rintro e w' ⟨rfl, rfl⟩
      go_wp2_with fail
      refine (frames_idle _ _ i0.out).mono ?_
      rintro e w' ⟨rfl, rfl⟩
      go_wp2_with fail
      refine (dirty_idle _ _ i0.out).mono ?_
      rintro e w' ⟨rfl, rfl⟩
      go_wp2_with fail
      refine (reads_idle _ _ i0.out).mono ?_
      rintro e w' ⟨rfl, rfl⟩
      go_wp2
      rw [rounds_succ]
      go_wp2_with fail
      refine (page_idle _ n _ i1.out).mono ?_
      rintro e w' ⟨rfl, rfl⟩
      go_wp2_with fail
      refine (set_idle _ _ n n _ i1.out).mono ?_
      rintro e w' ⟨rfl, rfl⟩
      go_wp2_with fail
      refine (out_idle _ n _ i1.out).mono ?_
      rintro e w' ⟨rfl, rfl⟩
      go_wp2_with fail
      refine (clean_idle _ _ i1.out).mono ?_
      rintro e w' ⟨rfl, rfl⟩
      go_wp2_with fail
      refine (frames_idle _ _ i1.out).mono ?_
      rintro e w' ⟨rfl, rfl⟩
      go_wp2_with fail
      refine (dirty_idle _ _ i1.out).mono ?_
      rintro e w' ⟨rfl, rfl⟩
      go_wp2_with fail
      refine (reads_idle _ _ i1.out).mono ?_
      rintro e w' ⟨rfl, rfl⟩
      go_wp2
      rw [rounds_succ]
      go_wp2_with fail
      refine (pawake_any _).mono ?_
      rintro e w9 ⟨rfl, n9⟩
      go_wp2
      go_ret
      exact ⟨rfl, N5.out.trans n9⟩
    · have q1 : decide (2 ≤ n) = true := by simp; omega
      have q2 : decide (n ≤ 16) = false := by simp; omega
      clear z
      go_wp2_with fail
      refine (pnew_nil1 _ n _).mono ?_
      rintro e w' ⟨rfl, rfl⟩
      go_wp2_with fail
      refine (pnew_nil2 _ n _).mono ?_
      rintro e w' ⟨rfl, rfl⟩
      go_wp2_with fail
      clear q1 q2
      have nz := (New.refl w4).alloc #[.pointer none, .pointer none, .int .i64 0, .slice none 0 0, .int .i64 0] 40
      have nr := (New.refl (w4.alloc (.cells #[.pointer none, .pointer none, .int .i64 0, .slice none 0 0, .int .i64 0] 40))).alloc #[.pointer none, .pointer (some ⟨w4.heap.size, 0, none⟩)] 35
      have hz := (Below.block nr _ (by simp)).trans (heap_alloc_new w4 (.cells #[.pointer none, .pointer none, .int .i64 0, .slice none 0 0, .int .i64 0] 40))
      have hr := heap_alloc_new (w4.alloc (.cells #[.pointer none, .pointer none, .int .i64 0, .slice none 0 0, .int .i64 0] 40)) (.cells #[.pointer none, .pointer (some ⟨w4.heap.size, 0, none⟩)] 35)
      rw [show (w4.alloc (.cells #[.pointer none, .pointer none, .int .i64 0, .slice none 0 0, .int .i64 0] 40)).heap.size = w4.heap.size + 1 by simp] at hr
      have N5 := hid (N4.out.trans (nz.trans nr))
      clear nz nr
      generalize (w4.alloc (.cells #[.pointer none, .pointer none, .int .i64 0, .slice none 0 0, .int .i64 0] 40)).alloc (.cells #[.pointer none, .pointer (some ⟨w4.heap.size, 0, none⟩)] 35) = w5 at *
      have i0 : Hid (Idle w5 (.pointer none)) := hid (.inl rfl)
      have i1 : Hid (Idle w5 (.pointer (some ⟨w4.heap.size, 0, none⟩))) := hid (.inr ⟨_, rfl, cells_of hz 2⟩)
      have g0 := cells_of hr 0
      have g1 := cells_of hr 1
      clear hz hr
      refine wp_loop_rounds 3 ?_
      rw [rounds_succ]
      go_wp2_with fail
      refine (page_idle _ n _ i0.out).mono ?_
      rintro e w' ⟨rfl, rfl⟩
      go_wp2_with fail
      refine (set_idle _ _ n n _ i0.out).mono ?_
      rintro e w' ⟨rfl, rfl⟩
      go_wp2_with fail
      refine (out_idle _ n _ i0.out).mono ?_
      rintro e w' ⟨rfl, rfl⟩
      go_wp2_with fail
      refine (clean_idle _ _ i0.out).mono ?_
      rintro e w' ⟨rfl, rfl⟩
      go_wp2_with fail
      refine (frames_idle _ _ i0.out).mono ?_
      rintro e w' ⟨rfl, rfl⟩
      go_wp2_with fail
      refine (dirty_idle _ _ i0.out).mono ?_
      rintro e w' ⟨rfl, rfl⟩
      go_wp2_with fail
      refine (reads_idle _ _ i0.out).mono ?_
      rintro e w' ⟨rfl, rfl⟩
      go_wp2
      rw [rounds_succ]
      go_wp2_with fail
      refine (page_idle _ n _ i1.out).mono ?_
      rintro e w' ⟨rfl, rfl⟩
      go_wp2_with fail
      refine (set_idle _ _ n n _ i1.out).mono ?_
      rintro e w' ⟨rfl, rfl⟩
      go_wp2_with fail
      refine (out_idle _ n _ i1.out).mono ?_
      rintro e w' ⟨rfl, rfl⟩
      go_wp2_with fail
      refine (clean_idle _ _ i1.out).mono ?_
      rintro e w' ⟨rfl, rfl⟩
      go_wp2_with fail
      refine (frames_idle _ _ i1.out).mono ?_
      rintro e w' ⟨rfl, rfl⟩
      go_wp2_with fail
      refine (dirty_idle _ _ i1.out).mono ?_
      rintro e w' ⟨rfl, rfl⟩
      go_wp2_with fail
      refine (reads_idle _ _ i1.out).mono ?_
      rintro e w' ⟨rfl, rfl⟩
      go_wp2
      rw [rounds_succ]
      go_wp2_with fail
      refine (pawake_any _).mono ?_
      rintro e w9 ⟨rfl, n9⟩
      go_wp2
      go_ret
      exact ⟨rfl, N5.out.trans n9⟩
end Go.Proofs.Ytdccbceaajnajaa
