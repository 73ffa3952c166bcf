/- The specification's numbers and texts as bytes (progenyref01.number, Number, Text; progenyref03.number, text); NewReader. -/
import Derived.Test.YtdccbceaajnajaaT4
import Derived.Test.YtdccbceaajnajaaA11
import Derived.Deep.AppendLies
namespace Go.Proofs.Ytdccbceaajnajaa
open Go.RowKit
set_option linter.unusedSimpArgs false
set_option linter.unusedVariables false

/-- Bytes in a row of their own. -/
def OwnBack (s : List UInt8) (w : World) (e : Ending) (w' : World) : Prop := ∃ p c, e = .returned (.slice p s.length c) ∧ w'.ownsRow w.heap.size 5 1 (.slice p s.length c) s.length (u8s s) ∧ New w w'
set_option maxHeartbeats 800000 in
theorem refnumber_any (n : Int) (w : World) (h0 : 0 ≤ n) (h1 : n ≤ 4294967295) : Calls Try.prog 42 #[.int .i64 n] w (OwnBack (numB n) w) := by
  have HV : Hid (u8s (numB n) = _) := hid ((u8s_bytes (numB n)).symm.trans (numB_vals n h0 h1))
  go_enter Try.func42, Try.ntmps42
  go_wp2
  go_ret
  refine ⟨some ⟨w.heap.size, 0, none⟩, 4, rfl, ?_, (New.refl w).alloc _ _⟩
  have := World.ownsRow_lit (base := w.heap.size) (e := 5) (size := 1) w #[Value.int .u8 (n / 16777216), .int .u8 (n / 65536 % 256), .int .u8 (n / 256 % 256), .int .u8 (n % 256)] 4 (Nat.le_refl _) (by decide) rfl
  rw [HV.out]
  exact this
/-- The same, with an error that is none. -/
def OwnBack2 (s : List UInt8) (w : World) (e : Ending) (w' : World) : Prop := ∃ p c, e = .returned (.tuple #[.slice p s.length c, .int .i64 0]) ∧ w'.ownsRow w.heap.size 5 1 (.slice p s.length c) s.length (u8s s) ∧ New w w'
theorem refNumberOf_any (n : Int) (w : World) (h0 : 0 ≤ n) (h1 : n ≤ 4294967295) : Calls Try.prog 23 #[.int .i64 n] w (OwnBack2 (numB n) w) := by
  have q1 : decide (n < 0) = false := by simp; omega
  have q2 : decide ((4294967295 : Int) < n) = false := by simp; omega
  go_enter Try.func23, Try.ntmps23
  go_wp2_with fail
  refine (refnumber_any n w h0 h1).mono ?_
  rintro e w2 ⟨p, c, rfl, ho, hn⟩
  have HO := hid ho
  clear ho
  go_wp2
  go_ret2
  exact ⟨p, c, rfl, HO.out, hn⟩
/-- A new reader of the specification's. -/
theorem refReader_any (v : Value) (l : List UInt8) (w : World) (h : Bytes w v (bytesOf l)) (hl : l.length ≤ 1000000) : Calls Try.prog 27 #[v] w fun e w' => ∃ x, e = .returned (.pointer (some ⟨x, 0, none⟩)) ∧ QdAt w' x (some l) ∧ New w w' ∧ w.heap.size ≤ x := by
  have H := hid h
  have HL : Hid (0 + (bytesOf l).size ≤ 140737488355328) := hid (by rw [bytesOf_size]; omega)
  clear h
  go_enter Try.func27, Try.ntmps27
  go_wp2_with (at_builtin; refine app_all rfl _ _ rfl w.heap.size _ 0 [] rfl (World.ownsRow_lit w #[] 0 (Nat.le_refl _) (by decide) rfl) v (bytesOf l) rfl (RowAt.new H.out ((New.refl w).alloc #[] 5)) HL.out ?c2 ?_)
  case c2 => simp
  intro v' w' hown hg hblk
  have hn : New w w' := ((New.refl w).alloc #[] 5).grown hg (by simp) (by simp [Value.ownBlock])
  have hc : Content w' v' (bytesOf l) := ⟨own_bytes hown rfl rfl, fun k hk => by
    rcases hown.2 with ⟨e, _⟩ | ⟨g, cap, cur, e, _, hh, _⟩
    · rw [e] at hk; simp [Value.ownBlock] at hk
    · rw [e] at hk
      simp only [Value.ownBlock, Option.some.injEq] at hk
      subst hk
      exact ⟨_, _, hh⟩⟩
  obtain ⟨p', n', c', rfl⟩ := own_slice hown
  have HC := hid hc
  have HN := hid hn
  clear hown hg hblk hc hn
  go_wp2
  go_ret
  refine ⟨w'.heap.size, rfl, ?_, HN.out.alloc _ _, HN.out.size⟩
  exact ⟨_, false, heap_alloc_new w' _, ⟨_, _, _, rfl⟩, rfl, HC.out.turn (S := fun _ => False) (Turn.of_new ((New.refl w').alloc _ _)) (apart_none _)⟩

end Go.Proofs.Ytdccbceaajnajaa
