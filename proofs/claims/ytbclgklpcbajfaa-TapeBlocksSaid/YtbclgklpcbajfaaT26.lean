/- The walk of progenylaw03.TapeBlocks, for every record and number. -/
import Derived.Test.YtbclgklpcbajfaaT25
namespace Go.Proofs.Ytbclgklpcbajfaa
open Go.RowKit
set_option linter.unusedSimpArgs false
set_option linter.unusedVariables false

theorem decHead_app {k : Int} {t : List UInt8} (h0 : 0 ≤ k) (h1 : k ≤ 4294967295) : (decHead (numB k ++ t)).len = k := by
  simp only [decHead, rdNum_app k t h0 h1]
/-- A block that is a proper beginning of another one is none. -/
theorem prefix_bad {l m t : List UInt8} (h : l = m ++ t) (hl : decOk l = true) (hm : decOk m = true) (hll : l.length ≤ 1000000) : m.length = l.length := by
  simp only [decOk, Bool.and_eq_true, decide_eq_true_eq] at hl hm
  have e1 : (decHead l).len = l.length := hl.1.1.2
  have e2 : (decHead m).len = m.length := hm.1.1.2
  have a1 := decRest_some hm.1.1.1
  rw [List.append_nil] at a1
  have a2 := decHead_some a1
  rw [e2] at a2
  obtain ⟨q, hq⟩ : ∃ q, m = numB (m.length : Int) ++ q := ⟨_, a2⟩
  have hml : m.length ≤ l.length := by rw [h, List.length_append]; omega
  have e3 : l = numB (m.length : Int) ++ (q ++ t) := by rw [← List.append_assoc, ← hq, h]
  have e4 : (decHead l).len = (m.length : Int) := by rw [e3]; exact decHead_app (by omega) (by omega)
  omega
theorem encB_ok {r : Rec} {n : Int} (h : (validB r && wi 1 n 1000000) = true) : decOk (encB n r) = true ∧ decRec (encB n r) = (r, some []) ∧ (decHead (encB n r)).num = n := decOk_same h rfl
theorem encB_length {r : Rec} {n : Int} (h : validB r = true) : (encB n r).length ≤ 200000 := by
  have := (decRest_app h).2
  unfold encB headB
  simp only [List.length_append, numB_length]
  have e : (smallB r.kind).length = 1 := rfl
  omega
theorem prefix_no {r : Rec} {n : Int} (h : (validB r && wi 1 n 1000000) = true) {k : Nat} (hk : k < (encB n r).length) : decOk ((encB n r).take k) = false := by
  rw [← Bool.not_eq_true]
  intro hm
  have hv : validB r = true := by rw [Bool.and_eq_true] at h; exact h.1
  have hl := encB_length (n := n) hv
  have := prefix_bad (l := encB n r) (m := (encB n r).take k) (t := (encB n r).drop k) (List.take_append_drop _ _).symm (encB_ok h).1 hm (by omega)
  rw [List.length_take] at this
  omega
theorem bytesOf_take (l : List UInt8) (k : Nat) : (bytesOf l).extract 0 k = bytesOf (l.take k) := by
  apply ByteArray.ext
  simp [bytesOf]
theorem Bytes.takeL {w : World} {p : Option Addr} {c : Nat} {l : List UInt8} (h : Bytes w (.slice p l.length c) (bytesOf l)) (k : Nat) (hk : k ≤ l.length) : Bytes w (.slice p k c) (bytesOf (l.take k)) := by
  rw [← bytesOf_take]
  rw [← bytesOf_size l] at h hk
  exact h.take k hk

set_option maxRecDepth 100000 in
set_option maxHeartbeats 4000000 in
theorem tapeBlocks_no (r : Rec) (n : Int) (bv av uv : Value) (w : World) (h : RecAt w r bv av uv) (hl : large r = false) (ok : (validB r && wi 1 n 1000000) = false) :
    Calls Try.prog 11 #[.agg (recCells r bv av uv), .int .i64 n] w fun e w' => e = .returned (.bool true) ∧ New w w' := by
  have h0 := h
  obtain ⟨⟨bp, bc, rfl, _⟩, ⟨ap, ac, rfl, _⟩, ⟨up, uc, rfl, _⟩⟩ := h0
  have OK := hid ok
  clear ok
  go_enter Try.func11, Try.ntmps11
  go_wp2_with fail
  refine (large_any r _ _ _ _ (h.new ((New.refl w).alloc _ _))).mono ?_
  rintro e w1 ⟨rfl, n1⟩
  rw [hl]
  obtain ⟨m1, f1⟩ := n1.made
  go_wp2_with fail
  refine (encode_any n r _ _ _ _ (h.new (((New.refl w).alloc _ _).trans n1))).mono ?_
  rintro e w2 he
  rw [OK.out] at he
  simp only [Bool.false_eq_true, if_false] at he
  obtain ⟨rfl, n2⟩ := he
  clear m1 f1
  obtain ⟨m1, f1⟩ := (n1.trans n2).made
  go_wp2_with fail
  refine (refEncode_any n r _ _ _ _ (h.new (((New.refl w).alloc _ _).trans (n1.trans n2)))).mono ?_
  rintro e w3 he
  rw [OK.out] at he
  simp only [Bool.false_eq_true, if_false] at he
  obtain ⟨rfl, n3⟩ := he
  clear m1 f1
  have N3 := n1.trans (n2.trans n3)
  have hR : ∀ (p : After w3) o, p.w.cell? ⟨w.heap.size, o, none⟩ = #[Value.int .i64 r.kind, .int .i64 r.unit, .int .i64 r.page, .int .i64 r.at_, .slice bp r.before.size bc, .slice ap r.after.size ac, .int .i64 r.back, .int .i64 r.next, .string r.text, .slice up r.units.length uc][o]? := fun p => (N3.trans p.new).made.1
  have kc : ∀ (p : After w3), (Go.convert 22 9 (.slice none 0 0)).run Try.prog p.w = .ok (.string ByteArray.empty) p.w := fun p => Bytes.convert (P := Try.prog) (bytes_none p.w) 22 5 9 Try.underlying22 Try.underlying5 Try.underlying9
  have e0 : ∀ x : Bool, (x != x) = false := by simp
  go_wp2_with fail
  refine wp_region_new (by kernel_rfl) (by kernel_rfl) ?_
  repeat (go_big_quiet_step (first
      | (with_reducible refine calls_after (valid_any r _ _ _ _ (h.new (((New.refl w).alloc _ _).trans (N3.trans (After.new _))))))
      | (with_reducible refine calls_after (refValid_any r _ _ _ _ (h.new (((New.refl w).alloc _ _).trans (N3.trans (After.new _))))))))
  refine wpQuiet_nil ?_
  rintro _ ⟨p, rfl⟩
  go_wp2_with fail
  refine (first_any _).mono ?_
  rintro e w5 ⟨rfl, n5⟩
  go_wp2
  go_ret
  exact ⟨rfl, ((New.refl w).alloc _ _).trans (N3.trans (p.new.trans n5))⟩

set_option maxRecDepth 100000 in
set_option maxHeartbeats 4000000 in
theorem tapeBlocks_yes (r : Rec) (n : Int) (bv av uv : Value) (w : World) (h : RecAt w r bv av uv) (hl : large r = false) (ok : (validB r && wi 1 n 1000000) = true) :
    Calls Try.prog 11 #[.agg (recCells r bv av uv), .int .i64 n] w fun e w' => e = .returned (.bool true) ∧ New w w' := by
  have h0 := h
  obtain ⟨⟨bp, bc, rfl, _⟩, ⟨ap, ac, rfl, _⟩, ⟨up, uc, rfl, _⟩⟩ := h0
  have HV : Hid (validB r = true) := hid (by rw [Bool.and_eq_true] at ok; exact ok.1)
  have OK := hid ok
  have LL := hid (encB_length (n := n) HV.out)
  clear ok
  go_enter Try.func11, Try.ntmps11
  go_wp2_with fail
  refine (large_any r _ _ _ _ (h.new ((New.refl w).alloc _ _))).mono ?_
  rintro e w1 ⟨rfl, n1⟩
  rw [hl]
  obtain ⟨m1, f1⟩ := n1.made
  go_wp2_with fail
  refine (encode_any n r _ _ _ _ (h.new (((New.refl w).alloc _ _).trans n1))).mono ?_
  rintro e w2 he
  rw [OK.out] at he
  simp only [if_true] at he
  obtain ⟨v2, rfl, hb2, n2⟩ := he
  clear m1 f1
  obtain ⟨m1, f1⟩ := (n1.trans n2).made
  go_wp2_with fail
  refine (refEncode_any n r _ _ _ _ (h.new (((New.refl w).alloc _ _).trans (n1.trans n2)))).mono ?_
  rintro e w3 he
  rw [OK.out] at he
  simp only [if_true] at he
  obtain ⟨v3, rfl, hb3, n3⟩ := he
  clear m1 f1
  have N3 := n1.trans (n2.trans n3)
  have hb2' := hb2.new n3
  obtain ⟨l, hl0⟩ : ∃ l, l = encB n r := ⟨_, rfl⟩
  rw [← hl0] at LL hb2' hb3
  have HL := hid hl0
  obtain ⟨p2, c2, rfl, k1, k2, _⟩ := id hb2'
  rw [bytesOf_size] at k1 hb2' ⊢
  obtain ⟨p3, c3, rfl, k3, k4, _⟩ := id hb3
  rw [bytesOf_size] at k3 hb3 ⊢
  unfold maxLen at k2 k4
  have HB2 := hid hb2'
  have HB3 := hid hb3
  have LB := hid LL.out
  clear hl0 hb2 hb3 hb2'
  have hR : ∀ (p : After w3) o, p.w.cell? ⟨w.heap.size, o, none⟩ = #[Value.int .i64 r.kind, .int .i64 r.unit, .int .i64 r.page, .int .i64 r.at_, .slice bp r.before.size bc, .slice ap r.after.size ac, .int .i64 r.back, .int .i64 r.next, .string r.text, .slice up r.units.length uc][o]? := fun p => (N3.trans p.new).made.1
  have kc : ∀ (p : After w3), (Go.convert 22 9 (.slice p2 l.length c2)).run Try.prog p.w = .ok (.string (bytesOf l)) p.w := fun p => Bytes.convert (P := Try.prog) (HB2.out.new p.new) 22 5 9 Try.underlying22 Try.underlying5 Try.underlying9
  have kd : ∀ (p : After w3), (Go.convert 22 9 (.slice p3 l.length c3)).run Try.prog p.w = .ok (.string (bytesOf l)) p.w := fun p => Bytes.convert (P := Try.prog) (HB3.out.new p.new) 22 5 9 Try.underlying22 Try.underlying5 Try.underlying9
  have e0 : ∀ x : Bool, (x != x) = false := by simp
  go_wp2_with fail
  refine wp_region_new (by kernel_rfl) (by kernel_rfl) ?_
  repeat (go_big_quiet_step (first
      | (with_reducible refine calls_after (valid_any r _ _ _ _ (h.new (((New.refl w).alloc _ _).trans (N3.trans (After.new _))))))
      | (with_reducible refine calls_after (refValid_any r _ _ _ _ (h.new (((New.refl w).alloc _ _).trans (N3.trans (After.new _))))))))
  refine wpQuiet_nil ?_
  rintro _ ⟨p, rfl⟩
  have N4 := hid (N3.trans p.new)
  have HB4 := hid (HB2.out.new p.new)
  clear hR kc kd N3 n1 n2 n3 HB2 HB3 k3 k4
  generalize hw4 : p.w = w4 at *
  clear hw4
  go_wp2_with fail
  refine (decode_any _ l _ HB4.out (by have := LB.out; omega)).mono ?_
  rintro e w5 ⟨bv5, av5, uv5, hA5, n5, rfl⟩
  have D1 : Hid (decOk l = true ∧ decRec l = (r, some []) ∧ (decHead l).num = n) := hid (by rw [HL.out]; exact encB_ok OK.out)
  rw [D1.out.1] at hA5 ⊢
  simp only [if_true] at hA5 ⊢
  rw [D1.out.2.1] at hA5 ⊢
  rw [D1.out.2.2]
  dsimp only at hA5 ⊢
  obtain ⟨⟨bp5, bc5, rfl, _⟩, ⟨ap5, ac5, rfl, _⟩, ⟨up5, uc5, rfl, _⟩⟩ := id hA5
  have HC5 : recCells r (.slice bp5 r.before.size bc5) (.slice ap5 r.after.size ac5) (.slice up5 r.units.length uc5) = #[.int .i64 r.kind, .int .i64 r.unit, .int .i64 r.page, .int .i64 r.at_, .slice bp5 r.before.size bc5, .slice ap5 r.after.size ac5, .int .i64 r.back, .int .i64 r.next, .string r.text, .slice up5 r.units.length uc5] := rfl
  rw [HC5]
  clear HC5
  have N5 := hid (N4.out.trans n5)
  have H5 := hid (h.new (((New.refl w).alloc #[.int .i64 r.kind, .int .i64 r.unit, .int .i64 r.page, .int .i64 r.at_, .slice bp r.before.size bc, .slice ap r.after.size ac, .int .i64 r.back, .int .i64 r.next, .string r.text, .slice up r.units.length uc] 25).trans N5.out))
  obtain ⟨m1, f1⟩ := N5.out.made
  have hz : w.heap.size < w5.heap.size := by have := N5.out.size; simp at this; omega
  have e1 : (n != n) = false := by simp
  have e2 : (n == n) = true := by simp
  have HB5 := hid (HB4.out.new n5)
  have HA5 := hid hA5
  clear hA5 n5 HB4
  go_wp2_with fail
  refine (refSameRecord_any r r _ _ _ _ _ _ _ (HA5.out.new ((New.refl w5).alloc _ _)) (H5.out.new ((New.refl w5).alloc _ _))).mono ?_
  rintro e w6 ⟨rfl, n6⟩
  have e5 : decide (r = r) = true := by simp
  rw [e5]
  have N6 := hid (N5.out.trans ((New.refl w5).alloc #[.int .i64 r.kind, .int .i64 r.unit, .int .i64 r.page, .int .i64 r.at_, .slice bp5 r.before.size bc5, .slice ap5 r.after.size ac5, .int .i64 r.back, .int .i64 r.next, .string r.text, .slice up5 r.units.length uc5] 25 |>.trans n6))
  clear m1 f1
  obtain ⟨m1, f1⟩ := N6.out.made
  obtain ⟨m5, f5⟩ := n6.made
  have HA6 := hid (HA5.out.new ((New.refl w5).alloc #[.int .i64 r.kind, .int .i64 r.unit, .int .i64 r.page, .int .i64 r.at_, .slice bp5 r.before.size bc5, .slice ap5 r.after.size ac5, .int .i64 r.back, .int .i64 r.next, .string r.text, .slice up5 r.units.length uc5] 25 |>.trans n6))
  have H6 := hid (h.new (((New.refl w).alloc #[.int .i64 r.kind, .int .i64 r.unit, .int .i64 r.page, .int .i64 r.at_, .slice bp r.before.size bc, .slice ap r.after.size ac, .int .i64 r.back, .int .i64 r.next, .string r.text, .slice up r.units.length uc] 25).trans N6.out))
  have HB6 := hid (HB5.out.new ((New.refl w5).alloc #[.int .i64 r.kind, .int .i64 r.unit, .int .i64 r.page, .int .i64 r.at_, .slice bp5 r.before.size bc5, .slice ap5 r.after.size ac5, .int .i64 r.back, .int .i64 r.next, .string r.text, .slice up5 r.units.length uc5] 25 |>.trans n6))
  clear n6 HA5 H5 HB5
  go_wp2_with fail
  refine (sameRecord_any r r _ _ _ _ _ _ _ HA6.out H6.out).mono ?_
  rintro e w7 ⟨rfl, n7⟩
  have e6 : decide (r = r) = true := by simp
  rw [e6]
  clear e6
  have N7 := hid (N6.out.trans n7)
  have HB7 := hid (HB6.out.new n7)
  clear n7 m1 f1 m5 f5 HA6 H6 HB6 e5 e1 e2 hz
  go_wp2
  go_loopw [11, 12, 13, 14] (fun i _ _ _ wr => ∃ k : Nat, k ≤ l.length ∧ i = .int .i64 k ∧ Hid (New w7 wr)) (fun i _ _ _ _ => l.length - (intOf i).toNat)
  case atStart => exact ⟨0, Nat.zero_le _, rfl, hid (New.refl _)⟩
  case round =>
    obtain ⟨k, hk, rfl, hyp⟩ := hrel
    by_cases hlt : k < l.length
    · have BK := hid (HB7.out.new hyp.out |>.takeL k hk)
      have NO : Hid (decOk (l.take k) = false) := hid (by have := prefix_no OK.out (k := k) (by rw [← HL.out]; exact hlt); rw [← HL.out] at this; exact this)
      have LK : Hid ((l.take k).length ≤ 1000000) := hid (by rw [List.length_take]; have := LB.out; omega)
      go_wp2_with fail
      refine (decode_any _ (l.take k) _ BK.out LK.out).mono ?_
      rintro e w8 ⟨bv8, av8, uv8, hA8, n8, rfl⟩
      rw [NO.out] at hA8 ⊢
      simp only [Bool.false_eq_true, if_false] at hA8 ⊢
      obtain ⟨⟨bp8, bc8, rfl, _⟩, ⟨ap8, ac8, rfl, _⟩, ⟨up8, uc8, rfl, _⟩⟩ := hA8
      have HC8 : recCells rec0 (.slice bp8 rec0.before.size bc8) (.slice ap8 rec0.after.size ac8) (.slice up8 rec0.units.length uc8) = #[.int .i64 0, .int .i64 0, .int .i64 0, .int .i64 0, .slice bp8 rec0.before.size bc8, .slice ap8 rec0.after.size ac8, .int .i64 0, .int .i64 0, .string ByteArray.empty, .slice up8 rec0.units.length uc8] := rfl
      rw [HC8]
      have HN8 := hid (hyp.out.trans n8)
      clear hyp BK NO LK HC8 n8
      go_wp2
      go_roundw
      case rel => exact ⟨k + 1, by omega, by go_num, hid (HN8.out.alloc _ _)⟩
      case measure => simp [intOf]; omega
    · obtain rfl : k = l.length := by omega
      go_wp2_with fail
      refine (first_any _).mono ?_
      rintro e w9 ⟨rfl, n9⟩
      go_wp2
      go_ret
      exact ⟨rfl, ((New.refl w).alloc _ _).trans (N7.out.trans (hyp.out.trans n9))⟩

set_option maxHeartbeats 4000000 in
theorem tapeBlocks_any (r : Rec) (bv av uv : Value) (n : Int) (w : World) (h : RecAt w r bv av uv) :
    Calls Try.prog 11 #[.agg (recCells r bv av uv), .int .i64 n] w fun e w' => e = .returned (.bool true) ∧ New w w' := by
  by_cases hl : large r = true
  · have h0 := h
    obtain ⟨⟨bp, bc, rfl, _⟩, ⟨ap, ac, rfl, _⟩, ⟨up, uc, rfl, _⟩⟩ := h0
    go_enter Try.func11, Try.ntmps11
    go_wp2_with fail
    refine (large_any r _ _ _ _ (h.new ((New.refl w).alloc _ _))).mono ?_
    rintro e w1 ⟨rfl, n1⟩
    rw [hl]
    go_wp2_with fail
    refine (first_any _).mono ?_
    rintro e w2 ⟨rfl, n2⟩
    go_wp2
    go_ret
    exact ⟨rfl, ((New.refl w).alloc _ _).trans (n1.trans n2)⟩
  have hl : large r = false := by simpa using hl
  by_cases ok : (validB r && wi 1 n 1000000) = true
  · exact tapeBlocks_yes r n bv av uv w h hl ok
  · exact tapeBlocks_no r n bv av uv w h hl (by simpa using ok)

end Go.Proofs.Ytbclgklpcbajfaa
