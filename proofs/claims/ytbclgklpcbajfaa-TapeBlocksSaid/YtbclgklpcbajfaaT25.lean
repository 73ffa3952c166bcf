/- The walk of progenylaw03.TapeDecodes, for every bytes. -/
import Derived.Test.YtbclgklpcbajfaaA12
import Derived.Test.YtbclgklpcbajfaaT24
namespace Go.Proofs.Ytbclgklpcbajfaa
open Go.RowKit
set_option linter.unusedSimpArgs false
set_option linter.unusedVariables false

theorem decOk_enc {l : List UInt8} (h : decOk l = true) : encB (decHead l).num (decRec l).1 = l ∧ (validB (decRec l).1 && wi 1 (decHead l).num 1000000) = true := by
  have hk := h
  simp only [decOk, Bool.and_eq_true, decide_eq_true_eq] at hk
  refine ⟨dec_enc hk.1.1.1 hk.1.1.2, ?_⟩
  rw [hk.2, hk.1.2]; rfl

set_option maxRecDepth 100000 in
set_option maxHeartbeats 4000000 in
theorem tapeDecodes_any (v : Value) (s : ByteArray) (w : World) (h : Bytes w v s) : Calls Try.prog 9 #[v] w fun e w' => e = .returned (.bool true) ∧ New w w' := by
  have HB := hid h
  obtain ⟨p, c, rfl, h1, h2, _⟩ := h
  by_cases hl : 1000 < s.size
  · have q1 : decide (1000 < s.size) = true := by simpa using hl
    go_enter Try.func9, Try.ntmps9
    go_wp2_with fail
    refine (first_any _).mono ?_
    rintro e w2 ⟨rfl, n2⟩
    go_wp2
    go_ret
    exact ⟨rfl, n2⟩
  have q1 : decide (1000 < s.size) = false := by simpa using hl
  obtain ⟨l, rfl⟩ : ∃ l : List UInt8, s = bytesOf l := ⟨s.data.toList, by simp [bytesOf]⟩
  rw [bytesOf_size] at hl q1 h1 HB ⊢
  have hl2 : l.length ≤ 1000000 := by omega
  have q2 : decide ((1000 : Int) < (l.length : Int)) = false := by simp; omega
  obtain ⟨R, hR⟩ : ∃ R, R = if decOk l then (decRec l).1 else rec0 := ⟨_, rfl⟩
  obtain ⟨N, hN⟩ : ∃ N, N = if decOk l then (decHead l).num else 0 := ⟨_, rfl⟩
  obtain ⟨E, hE⟩ : ∃ E : Int, E = if decOk l then 0 else 3 := ⟨_, rfl⟩
  have HR := hid hR
  have HN := hid hN
  have HE := hid hE
  have HL := hid hl2
  clear hR hN hE hl hl2
  go_enter Try.func9, Try.ntmps9
  go_wp2_with fail
  refine (decode_any _ l _ HB.out HL.out).mono ?_
  rintro e w1 ⟨bv, av, uv, hA, n1, rfl⟩
  rw [← HR.out, ← HN.out, ← HE.out]
  rw [← HR.out] at hA
  have hA0 := hA
  obtain ⟨⟨bp, bc, rfl, _⟩, ⟨ap, ac, rfl, _⟩, ⟨up, uc, rfl, _⟩⟩ := hA0
  have HC1 := hid (show recCells R (.slice bp R.before.size bc) (.slice ap R.after.size ac) (.slice up R.units.length uc) = #[.int .i64 R.kind, .int .i64 R.unit, .int .i64 R.page, .int .i64 R.at_, .slice bp R.before.size bc, .slice ap R.after.size ac, .int .i64 R.back, .int .i64 R.next, .string R.text, .slice up R.units.length uc] from rfl)
  rw [HC1.out]
  go_wp2_with fail
  refine (rdecode_any _ l _ (HB.out.renew (n1.alloc _ _)) HL.out).mono ?_
  rintro e w2 ⟨bv2, av2, uv2, hA2, n2, rfl⟩
  rw [← HR.out, ← HN.out, ← HE.out]
  rw [← HR.out] at hA2
  have hA0 := hA2
  obtain ⟨⟨bp2, bc2, rfl, _⟩, ⟨ap2, ac2, rfl, _⟩, ⟨up2, uc2, rfl, _⟩⟩ := hA0
  have HC2 := hid (show recCells R (.slice bp2 R.before.size bc2) (.slice ap2 R.after.size ac2) (.slice up2 R.units.length uc2) = #[.int .i64 R.kind, .int .i64 R.unit, .int .i64 R.page, .int .i64 R.at_, .slice bp2 R.before.size bc2, .slice ap2 R.after.size ac2, .int .i64 R.back, .int .i64 R.next, .string R.text, .slice up2 R.units.length uc2] from rfl)
  rw [HC2.out]
  obtain ⟨m1, f1⟩ := n2.made
  have hz : w1.heap.size < w2.heap.size := by have := n2.size; simp at this; omega
  have hA' := hid (hA.new ((New.refl w1).alloc #[.int .i64 R.kind, .int .i64 R.unit, .int .i64 R.page, .int .i64 R.at_, .slice bp R.before.size bc, .slice ap R.after.size ac, .int .i64 R.back, .int .i64 R.next, .string R.text, .slice up R.units.length uc] 25 |>.trans n2))
  have hA2' := hid hA2
  have N1 := hid n1
  have N2 := hid n2
  clear hA hA2 n1 n2
  have e1 : (N == N) = true := by simp
  have e2 : (N != N) = false := by simp
  have e3 : (E == E) = true := by simp
  have e4 : (E != E) = false := by simp
  go_wp2_with fail
  refine (refSameRecord_any R R _ _ _ _ _ _ _ (hA'.out.new ((New.refl w2).alloc _ _)) (hA2'.out.new ((New.refl w2).alloc _ _))).mono ?_
  rintro e w3 ⟨rfl, n3⟩
  have e5 : decide (R = R) = true := by simp
  rw [e5]
  clear e5 m1 f1
  have N3 := hid ((N2.out.alloc _ _).trans n3)
  obtain ⟨m1, f1⟩ := N3.out.made
  have A3 := hid ((hA'.out.new ((New.refl w2).alloc #[.int .i64 R.kind, .int .i64 R.unit, .int .i64 R.page, .int .i64 R.at_, .slice bp2 R.before.size bc2, .slice ap2 R.after.size ac2, .int .i64 R.back, .int .i64 R.next, .string R.text, .slice up2 R.units.length uc2] 25)).new n3)
  clear n3 hA' hA2'
  by_cases ok : decOk l = true
  · have hE0 : E = 0 := by rw [HE.out, ok]; rfl
    subst hE0
    have hN0 : N = (decHead l).num := by rw [HN.out, ok]; rfl
    have hR0 : R = (decRec l).1 := by rw [HR.out, ok]; rfl
    obtain ⟨k1, k2⟩ := decOk_enc ok
    rw [← hN0, ← hR0] at k1 k2
    have K1 := hid k1
    have K2 := hid k2
    clear k1 k2 hN0 hR0 ok
    go_wp2_with fail
    refine (enc_all N R _ _ _ _ A3.out).mono ?_
    rintro e w4 ⟨p4, k4, c4, er, rfl, n4, y4, _⟩
    obtain ⟨rfl, hb⟩ := y4 K2.out
    rw [K1.out] at hb
    have N4 := hid (N1.out.trans ((New.refl w1).alloc _ _ |>.trans (N3.out.trans n4)))
    have kc := Bytes.convert (P := Try.prog) hb 22 5 9 Try.underlying22 Try.underlying5 Try.underlying9
    have kd := Bytes.convert (P := Try.prog) (HB.out.new N4.out) 22 5 9 Try.underlying22 Try.underlying5 Try.underlying9
    clear hb n4 y4
    go_wp2_with fail
    refine (first_any _).mono ?_
    rintro e w5 ⟨rfl, n5⟩
    go_wp2
    go_ret
    exact ⟨rfl, N4.out.trans n5⟩
  · have hE0 : E = 3 := by rw [HE.out, if_neg ok]
    subst hE0
    have N4 := hid (N1.out.trans ((New.refl w1).alloc _ _ |>.trans N3.out))
    go_wp2_with fail
    refine (first_any _).mono ?_
    rintro e w5 ⟨rfl, n5⟩
    go_wp2
    go_ret
    exact ⟨rfl, N4.out.trans n5⟩

end Go.Proofs.Ytbclgklpcbajfaa
