/- The walk of PoolFrames. -/
import Derived.Test.YtdccbceaajnajaaGreatF1
import Derived.Test.YtdccbceaajnajaaGreatS29
namespace Go.Proofs.YtdccbceaajnajaaGreat
open Go.RowKit
set_option linter.unusedSimpArgs false
set_option linter.unusedVariables false

set_option maxRecDepth 100000 in
set_option maxHeartbeats 4000000 in
theorem in_any (v : Value) (l : List Int) (n : Int) (w : World) (h : Ints w v l) : Calls Tryz.prog 19 #[v, .int .i64 n] w fun e w' => e = .returned (.bool (decide (n ∈ l))) ∧ w = w' := by
  obtain ⟨p, c, rfl, g1, g2, x1⟩ := h
  unfold maxLen at g2
  have X1 := hid x1
  clear x1
  go_enter Tryz.func19, Tryz.ntmps19
  go_wp2
  go_loopw [5] (fun i wr => ∃ k : Nat, k ≤ l.length ∧ i = .int .i64 k ∧ w = wr ∧ Hid (n ∉ l.take k)) (fun i _ => l.length - (intOf i).toNat)
  case atStart => exact ⟨0, Nat.zero_le _, rfl, rfl, hid (by simp)⟩
  case round =>
    obtain ⟨k, hk, rfl, rfl, hno⟩ := hrel
    by_cases hlt : k < l.length
    · obtain ⟨b1, o1, rfl, hb1, hc1⟩ := X1.out (by omega)
      have y1 := Ints.at hc1 hlt
      have HT := hid (show l.take (k + 1) = l.take k ++ [l[k]] from (List.take_append_getElem hlt).symm)
      have HM := hid (List.getElem_mem hlt)
      generalize l[k] = r at *
      clear hc1
      by_cases hrn : r = n
      · have q1 : (r == n) = true := by simpa using hrn
        have HR := hid hrn
        clear hrn
        go_wp2
        go_ret
        exact ⟨ret_bool' (decide_eq_true (by rw [← HR.out]; exact HM.out)).symm, rfl⟩
      · have q1 : (r == n) = false := by simpa using hrn
        have HR := hid hrn
        clear hrn
        go_wp2
        go_roundw
        case rel => exact ⟨k + 1, by omega, by go_num, trivial, hid (by rw [HT.out, List.mem_append]; rintro (h | h); exact hno.out h; exact HR.out (List.mem_singleton.1 h).symm)⟩
        case measure => simp [intOf]; omega
    · obtain rfl : k = l.length := by omega
      have HNO : Hid (n ∉ l) := hid (by have := hno.out; rwa [List.take_length] at this)
      go_wp2
      go_ret
      exact ⟨ret_bool' (decide_eq_false HNO.out).symm, rfl⟩
theorem Ints.take {w : World} {p : Option Addr} {c : Nat} {l : List Int} (h : Ints w (.slice p l.length c) l) {k : Nat} (hk : k ≤ l.length) : Ints w (.slice p k c) (l.take k) := by
  obtain ⟨p', c', e, h1, h2, h3⟩ := h
  injection e with e1 _ e2
  subst e1 e2
  have hl : (l.take k).length = k := by rw [List.length_take]; omega
  refine ⟨p, c, by rw [hl], by rw [hl]; omega, h2, fun h0 => ?_⟩
  rw [hl] at h0
  obtain ⟨b, o, e, hb, hc⟩ := h3 (by omega)
  refine ⟨b, o, e, hb, fun i hi => ?_⟩
  rw [List.length_map, hl] at hi
  have hi2 : i < l.length := by omega
  rw [Ints.at hc hi2]
  simp [List.getD_eq_getElem?_getD, hi2, hi]
theorem Ints.cell {w : World} {p : Option Addr} {c : Nat} {l : List Int} (h : Ints w (.slice p l.length c) l) {k : Nat} (hk : k < l.length) : ∃ b o, p = some ⟨b, o, none⟩ ∧ ∀ i (hi : i < l.length), w.cell? ⟨b, o + i, none⟩ = some (.int .i64 l[i]) := by
  obtain ⟨p', c', e, h1, h2, h3⟩ := h
  injection e with e1 _ e2
  subst e1 e2
  obtain ⟨b, o, e, hb, hc⟩ := h3 (by omega)
  exact ⟨b, o, e, fun i hi => Ints.at hc hi⟩

/-- What holds in front of the next call of the script. -/
structure Calmly (w wr : World) (x b tb pb rb rp N j : Nat) : Prop where
  both : ∃ ow ot os rw fo A T P, Both w wr x b ow tb ot pb os rb rw rp fo A T P ∧ Fine N j A T P ∧ Quiet A
end Go.Proofs.YtdccbceaajnajaaGreat
