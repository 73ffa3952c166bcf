/- disk.Disk.Write at each made disk; nil disks and zero ones. -/
import Derived.Test.YtdccbceaajnajaaD3
namespace Go.Proofs.Ytdccbceaajnajaa
open Go.RowKit
set_option linter.unusedSimpArgs false
set_option linter.unusedVariables false

theorem actA_of (A : ADisk) (h : actE A ≠ 0) : True := trivial

set_option maxHeartbeats 2000000 in
/-- No such block, or too many bytes. -/
theorem write_arg (b : Nat) (ow : Option Nat) (A : ADisk) (n : Int) (v : Value) (s : ByteArray) (w : World) (h : DiskAt w b ow A) (hv : Bytes w v s)
    (hn : (!isB n || decide (340 < s.size)) = true) :
    Calls Try.prog 31 #[.pointer (some ⟨b, 0, none⟩), .int .i64 n, v] w (DiskMoved b ow (.int .i64 2) A w) := by
  have hd0 := hid h
  obtain ⟨f, hr, hd⟩ := h
  have c0 := hr.cell 0 (by omega)
  rw [hd.made] at c0
  obtain ⟨p, c, rfl, g1, g2, _⟩ := hv
  unfold maxLen at g2
  clear hr hd
  cases hB : isB n with
  | false =>
    have HN := hid hn
    clear hn
    go_enter Try.func31, Try.ntmps31
    go_wp2_with fail
    refine (none_no b w c0).mono ?_
    rintro e w' ⟨rfl, rfl⟩
    go_wp2_with fail
    refine (isBlock_any _ _).mono ?_
    rintro e w' ⟨rfl, rfl⟩
    rw [hB]
    go_wp2
    go_ret
    exact ⟨rfl, ow, hd0.out, fun _ h => .inl h, Turn.refl _ _⟩
  | true =>
    have hs : (340 : Int) < (s.size : Int) := by simp [hB] at hn; omega
    have HN := hid hn
    clear hn
    go_enter Try.func31, Try.ntmps31
    go_wp2_with fail
    refine (none_no b w c0).mono ?_
    rintro e w' ⟨rfl, rfl⟩
    go_wp2_with fail
    refine (isBlock_any _ _).mono ?_
    rintro e w' ⟨rfl, rfl⟩
    rw [hB]
    go_wp2
    go_ret
    exact ⟨rfl, ow, hd0.out, fun _ h => .inl h, Turn.refl _ _⟩

set_option maxHeartbeats 2000000 in
/-- The disk is down, or the act is the armed one. -/
theorem write_down (b : Nat) (ow : Option Nat) (A : ADisk) (n : Int) (v : Value) (s : ByteArray) (w : World) (h : DiskAt w b ow A) (hv : Bytes w v s) (hb : A.falls ≤ 1000000000) (hb2 : A.acts ≤ 1000000000)
    (hn : isB n = true) (hs : s.size ≤ 340) (ha : actE A ≠ 0) :
    Calls Try.prog 31 #[.pointer (some ⟨b, 0, none⟩), .int .i64 n, v] w (DiskMoved b ow (.int .i64 (actE A)) (actA A) w) := by
  have hd0 := h
  obtain ⟨f, hr, hd⟩ := h
  have c0 := hr.cell 0 (by omega)
  rw [hd.made] at c0
  obtain ⟨p, c, rfl, g1, g2, _⟩ := hv
  unfold maxLen at g2
  clear hr hd
  have HD := hid hd0
  clear hd0
  go_enter Try.func31, Try.ntmps31
  go_wp2_with fail
  refine (none_no b w c0).mono ?_
  rintro e w' ⟨rfl, rfl⟩
  go_wp2_with fail
  refine (isBlock_any _ _).mono ?_
  rintro e w' ⟨rfl, rfl⟩
  go_wp2_with fail
  refine (act_any b ow A _ HD.out hb hb2).mono ?_
  rintro e w1 ⟨rfl, hd1, ht1⟩
  go_wp2
  go_ret
  exact ⟨rfl, ow, hd1, fun _ h => .inl h, ht1.mono (fun k _ h => .inl h)⟩

/-- Write, whatever is written. -/
theorem write_any (b : Nat) (ow : Option Nat) (A : ADisk) (n : Int) (v : Value) (s : ByteArray) (w : World) (h : DiskAt w b ow A) (hv : Bytes w v s) (hvb : 0 < s.size → ∀ k, v.ownBlock = some k → ¬ k = b) (hb : A.falls ≤ 1000000000) (hb2 : A.acts ≤ 1000000000) (hb3 : A.waits.length ≤ 1000000000) :
    Calls Try.prog 31 #[.pointer (some ⟨b, 0, none⟩), .int .i64 n, v] w (DiskMoved b ow (.int .i64 (writeE A n s)) (writeA A n s) w) := by
  cases hn : (!isB n || decide (340 < s.size)) with
  | true =>
    rw [show writeE A n s = 2 by unfold writeE; rw [hn]; rfl, show writeA A n s = A by unfold writeA; rw [hn]; rfl]
    exact write_arg b ow A n v s w h hv hn
  | false =>
    obtain ⟨h1, h2⟩ : isB n = true ∧ s.size ≤ 340 := by simpa using hn
    by_cases ha : actE A = 0
    · rw [show writeE A n s = 0 by unfold writeE; rw [hn]; exact ha]
      exact write_yes b ow A n v s w h hv hvb hb hb2 hb3 h1 h2 ha
    · rw [show writeE A n s = actE A by unfold writeE; rw [hn]; rfl, show writeA A n s = actA A by unfold writeA; rw [hn]; simp [ha]]
      exact write_down b ow A n v s w h hv hb hb2 h1 h2 ha

end Go.Proofs.Ytdccbceaajnajaa
