/- The specification's reader of bytes: Text, NewReader. -/
import Derived.Test.YtbclgklpcbajfaaT3
namespace Go.Proofs.Ytbclgklpcbajfaa
open Go.RowKit
set_option linter.unusedSimpArgs false
set_option linter.unusedVariables false

theorem rdText_none : rdText none = (ByteArray.empty, none) := rfl
theorem rdText_nil : rdText (some []) = (ByteArray.empty, none) := rfl
theorem rdText_cons (a : UInt8) (l : List UInt8) : rdText (some (a :: l)) = if a.toNat ≤ l.length then (bytesOf (l.take a.toNat), some (l.drop a.toNat)) else (ByteArray.empty, none) := by
  have e : rdSmall (some (a :: l)) = ((a.toNat : Int), some l) := by
    have : rdTake 1 (some (a :: l)) = (some [a], some l) := by simp [rdTake]
    simp [rdSmall, this, valB]
  simp only [rdText, e, Int.toNat_natCast, rdTake]
  split
  · rfl
  · rfl
theorem refTake_at (x : Nat) (m : Int) (n : Nat) (s : RS) (w : World) (hm : m = n) (h : QdAt w x s) (hn : n ≤ 1000) : Calls Try.prog 123 #[.pointer (some ⟨x, 0, none⟩), .int .i64 m] w (QTakeBack x n s w) := by
  subst hm; exact refTake_any x n s w h hn

set_option maxHeartbeats 2000000 in
set_option maxRecDepth 100000 in
theorem refText_any (x : Nat) (s : RS) (w : World) (h : QdAt w x s) : Calls Try.prog 94 #[.pointer (some ⟨x, 0, none⟩)] w (QBack x (.string (rdText s).1) (rdText s).2 w) := by
  have H := hid h
  obtain ⟨v, bad, h1, ⟨p, n0, c, rfl⟩, h3⟩ := h
  obtain ⟨c0, c1, z0, z1⟩ := qd_cells h1
  have hxl : x < w.heap.size := (Array.getElem?_eq_some_iff.1 h1).1
  have H1 := hid h1
  have HBAD : Hid (∀ q, QdAt ((w.drewN q).setCell ⟨x, 1, none⟩ (.bool true)) x none ∧ Turn (· = x) w ((w.drewN q).setCell ⟨x, 1, none⟩ (.bool true))) := fun q =>
    ⟨⟨_, true, qd_set1 (w := w.drewN q) h1, ⟨_, _, _, rfl⟩, rfl⟩, (Turn.of_new ((New.refl w).drewN q)).trans (turn_set _ x 1 _)⟩
  clear h1
  cases s with
  | none =>
    subst h3
    go_enter Try.func94, Try.ntmps94
    go_wp2
    go_quiet (fail)
    go_wp2
    go_ret2
    exact ⟨⟨3, rfl⟩, HBAD.out _⟩
  | some l =>
    obtain ⟨rfl, hc⟩ := h3
    obtain ⟨⟨p', c', e, g1, g2, _⟩, _⟩ := id hc
    rw [bytesOf_size] at e g1
    injection e with e1 e2 e3
    subst e1 e2 e3
    unfold maxLen at g2
    cases l with
    | nil =>
      clear hc
      go_enter Try.func94, Try.ntmps94
      go_wp2
      go_quiet (fail)
      go_wp2
      go_ret2
      exact ⟨⟨3, rfl⟩, HBAD.out _⟩
    | cons a l =>
      obtain ⟨b, o, rfl, hb, y0⟩ := Bytes.cell hc.1 (i := 0) (by simp)
      simp only [List.getElem_cons_zero, Nat.add_zero] at y0
      have l0 : a.toNat < 256 := a.toNat_lt
      have ER := hid (rdText_cons a l)
      clear hc
      simp only [List.length_cons] at *
      by_cases hle : a.toNat ≤ l.length
      case neg =>
        have E : Hid (rdText (some (a :: l)) = (ByteArray.empty, none)) := hid (by rw [ER.out, if_neg hle])
        generalize a.toNat = z at *
        have q1 : decide ((l.length : Int) + 1 < 1 + (z : Int)) = true := by simp; omega
        have q2 : decide ((l.length : Int) + 1 < 1) = false := by simp; omega
        go_enter Try.func94, Try.ntmps94
        go_wp2
        go_quiet (fail)
        go_wp2
        go_ret2
        rw [E.out]
        exact ⟨⟨3, rfl⟩, HBAD.out _⟩
      have E : Hid (rdText (some (a :: l)) = (bytesOf (l.take a.toNat), some (l.drop a.toNat))) := hid (by rw [ER.out, if_pos hle])
      have ET : Hid (rdTake (1 + a.toNat) (some (a :: l)) = (some (a :: l.take a.toNat), some (l.drop a.toNat))) := hid (by
        simp only [rdTake, List.length_cons]
        rw [if_pos (by omega), Nat.add_comm 1, List.take_succ_cons, List.drop_succ_cons])
      clear ER
      generalize a.toNat = z at *
      have q1 : decide ((l.length : Int) + 1 < 1 + (z : Int)) = false := by simp; omega
      have q2 : decide ((l.length : Int) + 1 < 1) = false := by simp; omega
      go_enter Try.func94, Try.ntmps94
      go_wp2
      go_quiet (fail)
      rename_i nq
      have HQ := hid (H.out.new ((New.refl w).drewN nq))
      go_wp2_with fail
      refine (refTake_at x _ (1 + z) (some (a :: l)) _ (by omega) HQ.out (by omega)).mono ?_
      rintro e w2 ⟨h2, ht, h5⟩
      rw [ET.out] at h2 h5
      obtain ⟨p, c2, rfl, hc2, _⟩ := h5
      obtain ⟨b2, o2, rfl, _, _⟩ := Bytes.cell hc2.1 (i := 0) (by simp)
      have hlz : (l.take z).length = z := by rw [List.length_take]; omega
      have hsz : (bytesOf (a :: l.take z)).size = 1 + z := by rw [bytesOf_size, List.length_cons, hlz]; omega
      obtain ⟨_, _, e, g3, g4, _⟩ := id hc2.1
      rw [hsz] at e g3
      injection e with e5 e6 e7
      subst e5 e7
      clear e6
      unfold maxLen at g4
      have hbt : Bytes w2 (.slice (some ⟨b2, o2, none⟩) (bytesOf (a :: l.take z)).size c2) (bytesOf (a :: l.take z)) := by rw [hsz]; exact hc2.1
      have hadd : (⟨b2, o2, none⟩ : Addr).add 1 = ⟨b2, o2 + 1, none⟩ := by unfold Addr.add; split <;> simp_all
      have H2 := hid h2
      have HT := hid ((Turn.of_new ((New.refl w).drewN nq)).trans ht)
      clear h2 ht HQ q1 q2 y0
      by_cases hc1 : 1 < c2
      · have hb1 : Bytes w2 (.slice (some ⟨b2, o2 + 1, none⟩) (bytesOf (l.take z)).size (c2 - 1)) (bytesOf (l.take z)) := by
          rw [bytesOf_size, hlz]
          rcases Nat.eq_zero_or_pos z with h0 | h0
          · subst h0
            exact Bytes.none_left w2 _ _ (by unfold maxLen; omega)
          · have := hbt.drop 1 (by omega)
            rw [bytesOf_extract, hsz, hadd, List.take_of_length_le (by rw [List.length_cons, hlz]; omega), show 1 + z - 1 = z by omega] at this
            exact this
        have kc := hb1.convert (P := Try.prog) 22 5 9 Try.underlying22 Try.underlying5 Try.underlying9
        rw [bytesOf_size, hlz] at kc
        clear hbt hb1 hc2
        go_wp2
        go_ret2
        rw [E.out]
        exact ⟨⟨0, rfl⟩, H2.out, HT.out⟩
      · have hz0 : z = 0 := by omega
        subst hz0
        have hc21 : c2 = 1 := by omega
        subst hc21
        have kc := (Bytes.none_left w2 (some ⟨b2, o2, none⟩) 0 (by decide)).convert (P := Try.prog) 22 5 9 Try.underlying22 Try.underlying5 Try.underlying9
        clear hbt hc2
        go_wp2
        go_ret2
        rw [E.out]
        exact ⟨⟨0, rfl⟩, H2.out, HT.out⟩

end Go.Proofs.Ytbclgklpcbajfaa
