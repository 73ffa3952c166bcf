/- Every call on both sides; both are the same. -/
import Derived.Test.YtdccbceaajnajaaGreatS23
import Derived.Test.YtdccbceaajnajaaGreatS26
namespace Go.Proofs.YtdccbceaajnajaaGreat
open Go.RowKit
set_option linter.unusedSimpArgs false
set_option linter.unusedVariables false

theorem does_any (w0 : World) (x b : Nat) (ow : Option Nat) (tb : Nat) (ot : Option Nat) (pb : Nat) (os : Option Nat) (rb : Nat) (rw : Option Nat) (rp : Nat) (fo : Option Nat) (A : ADisk) (T : ATape) (P : APool) (N i : Nat) (m : Move) (p : Option Addr) (c : Nat) (w : World) (B : Both w0 w x b ow tb ot pb os rb rw rp fo A T P) (F : Fine N i A T P) (hd : A.down = false) (hi : i ≤ 1000) (hm : Bytes w0 (.slice p m.bytes.size c) m.bytes) (hmb : m.bytes.size ≤ 300) (hn : m.n ≤ 2 ^ 63 - 1) :
    Calls Tryz.prog 9 #[.pointer (some ⟨x, 0, none⟩), .agg (moveCells m p c)] w (DoesBack w0 x b tb pb rb rp N i m A T P w) := by
  rcases kindOf_cases m with h | h | h | h | h | h | h
  · exact does_append w0 x b ow tb ot pb os rb rw rp fo A T P N i m p c w B F hd hi hm hmb hn h
  · exact does_page w0 x b ow tb ot pb os rb rw rp fo A T P N i m p c w B F hd hi hm hmb hn h
  · exact does_set w0 x b ow tb ot pb os rb rw rp fo A T P N i m p c w B F hd hi hm hmb hn h
  · exact does_out w0 x b ow tb ot pb os rb rw rp fo A T P N i m p c w B F hd hi hm hmb hn h
  · exact does_clean w0 x b ow tb ot pb os rb rw rp fo A T P N i m p c w B F hd hi hm hmb hn h
  · exact does_force w0 x b ow tb ot pb os rb rw rp fo A T P N i m p c w B F hd hi hm hmb hn h
  · exact does_arm w0 x b ow tb ot pb os rb rw rp fo A T P N i m p c w B F hd hi hm hmb hn h

theorem ints_own {w : World} {base : Nat} {v : Value} {l : List Int} (h : w.ownsRow base 3 1 v l.length (l.map fun n : Int => Value.int .i64 n)) : Ints w v l := RowAt.owned h
theorem Both.newer' {w0 w w' : World} {x b tb pb rb rp : Nat} {ow ot os rw fo : Option Nat} {A : ADisk} {T : ATape} {P : APool} (h : Both w0 w x b ow tb ot pb os rb rw rp fo A T P) (hn : New w w') : Both w0 w' x b ow tb ot pb os rb rw rp fo A T P := h.newer hn
/-- The cells that 'same' reads. -/
theorem same_cells {w0 w : World} {x b tb pb rb rp : Nat} {ow ot os rw fo : Option Nat} {A : ADisk} {T : ATape} {P : APool} (h : Both w0 w x b ow tb ot pb os rb rw rp fo A T P) : ∀ w', New w w' → w'.cell? ⟨x, 0, none⟩ = some (.pointer (some ⟨b, 0, none⟩)) ∧ w'.cell? ⟨x, 1, none⟩ = some (.pointer (some ⟨tb, 0, none⟩)) ∧ w'.cell? ⟨x, 2, none⟩ = some (.pointer (some ⟨pb, 0, none⟩)) ∧ w'.cell? ⟨x, 3, none⟩ = some (.pointer (some ⟨rp, 0, none⟩)) ∧
    w'.cell? ⟨rp, 0, none⟩ = some (.pointer (some ⟨rb, 0, none⟩)) ∧ w'.cell? ⟨rp, 1, none⟩ = some (.int .i64 (T.recs.length : Int)) ∧ w'.cell? ⟨rp, 2, none⟩ = some (.int .i64 (T.forced : Int)) := fun w' hn => by
  have B := h.newer hn
  obtain ⟨h0, h1, h2, h3⟩ := B.two.cells
  obtain ⟨v, e1, -, -⟩ := B.ref.pool
  have hc := cells_of e1
  exact ⟨h0, h1, h2, h3, hc 0, hc 1, hc 2⟩

set_option maxHeartbeats 4000000 in
set_option maxRecDepth 100000 in
theorem same_any (w0 : World) (x b : Nat) (ow : Option Nat) (tb : Nat) (ot : Option Nat) (pb : Nat) (os : Option Nat) (rb : Nat) (rw : Option Nat) (rp : Nat) (fo : Option Nat) (A : ADisk) (T : ATape) (P : APool) (N i : Nat) (w : World) (B : Both w0 w x b ow tb ot pb os rb rw rp fo A T P) (F : Fine N i A T P) (hi : i ≤ 1001) :
    Calls Tryz.prog 21 #[.pointer (some ⟨x, 0, none⟩)] w fun e w' => e = .returned (.bool true) ∧ New w w' := by
  have HB := hid B
  have HL2 : Hid (P.frames.length ≤ 100000) := hid (by have := F.len; have := F.most; omega)
  have HZ : Hid (P.size ≠ 0) := hid (by rw [F.size]; have := F.two; omega)
  have HSM := hid (dirty_same F.pages (fun p hp => (F.ok p hp).page))
  have HSML := hid F.lim.small
  have HWT : Hid (A.waits.length ≤ 1000000000) := hid (by have := F.lim.waits; omega)
  have HC := hid (same_cells B)
  clear B F hi
  go_enter Tryz.func21, Tryz.ntmps21
  go_wp2_with fail
  dsimp only [HAppend.hAppend, Append.append, List.append]
  have hN : Hid (New w w.drew) := hid (New.refl w).drew
  have hS := HC.out w.drew hN.out
  go_region_held3 (fun w' : World => w'.cell? ⟨x, 0, none⟩ = some (.pointer (some ⟨b, 0, none⟩)) ∧ w'.cell? ⟨x, 1, none⟩ = some (.pointer (some ⟨tb, 0, none⟩)) ∧ w'.cell? ⟨x, 2, none⟩ = some (.pointer (some ⟨pb, 0, none⟩)) ∧ w'.cell? ⟨x, 3, none⟩ = some (.pointer (some ⟨rp, 0, none⟩)) ∧
      w'.cell? ⟨rp, 0, none⟩ = some (.pointer (some ⟨rb, 0, none⟩)) ∧ w'.cell? ⟨rp, 1, none⟩ = some (.int .i64 (T.recs.length : Int)) ∧ w'.cell? ⟨rp, 2, none⟩ = some (.int .i64 (T.forced : Int))) (exact hS)
    (first
      | (go_at_call 18; refine (frames_any pb os b tb P _ (HB.out.newer hN.out).sys.pool HZ.out HL2.out).mono ?_; rintro e w2 ⟨v2, rfl, i2, n2⟩; have I2 := hid i2; replace hN := hid (hN.out.trans n2); replace hS := HC.out w2 hN.out; clear i2 n2)
      | (go_at_call 51; refine (refFrames_any w0 rb rw rp fo A T P _ (HB.out.newer hN.out).ref HL2.out).mono ?_; rintro e w3 ⟨v3, rfl, i3, n3⟩; have I3 := hid i3; replace I2 := hid (I2.out.new n3); replace hN := hid (hN.out.trans n3); replace hS := HC.out w3 hN.out; clear i3 n3)
      | (go_at_call 24; refine (sameInts_any v5 v6 (dirtyOf P) (dirtyR P 120) _ I5.out I6.out).mono ?_; rintro e w7 ⟨rfl, n7⟩; rw [decide_eq_true HSM.out]; replace hN := hid (hN.out.trans n7); replace hS := HC.out w7 hN.out; clear n7)
      | (go_at_call 24; refine (sameInts_any v2 v3 (pagesOf P) (pagesOf P) _ I2.out I3.out).mono ?_; rintro e w4 ⟨rfl, n4⟩; rw [decide_eq_true rfl]; replace hN := hid (hN.out.trans n4); replace hS := HC.out w4 hN.out; clear n4)
      | (go_at_call 15; refine (dirty_any pb os b tb P _ (HB.out.newer hN.out).sys.pool HZ.out HL2.out).mono ?_; rintro e w5 ⟨v5, rfl, i5, n5⟩; have I5 := hid (ints_own i5); replace hN := hid (hN.out.trans n5); replace hS := HC.out w5 hN.out; clear i5 n5)
      | (go_at_call 52; refine (refDirty_any w0 rb rw rp fo A T P _ (HB.out.newer hN.out).ref HL2.out).mono ?_; rintro e w6 ⟨v6, rfl, i6, n6⟩; have I6 := hid (ints_own i6); replace I5 := hid (I5.out.new n6); replace hN := hid (hN.out.trans n6); replace hS := HC.out w6 hN.out; clear i6 n6)
      | (go_at_call 20; refine (reads_any pb os b tb P _ (HB.out.newer hN.out).sys.pool HZ.out).mono ?_; rintro e w8 ⟨rfl, rfl⟩)
      | (go_at_call 53; refine (refReads_any w0 rb rw rp fo A T P _ (HB.out.newer hN.out).ref).mono ?_; rintro e w8 ⟨rfl, rfl⟩)
      | (go_at_call 54; refine (last_any tb ot b T _ (HB.out.newer hN.out).sys.log.tape).mono ?_; rintro e w8 ⟨rfl, rfl⟩)
      | (go_at_call 13; refine (forced_any tb ot b T _ (HB.out.newer hN.out).sys.log.tape).mono ?_; rintro e w8 ⟨rfl, rfl⟩)
      | (go_at_call 55; refine (acts_any b ow A _ (HB.out.newer hN.out).sys.log.disk).mono ?_; rintro e w8 ⟨rfl, rfl⟩)
      | (go_at_call 56; refine (refActs_any rb rw A _ (HB.out.newer hN.out).ref.disk).mono ?_; rintro e w8 ⟨rfl, rfl⟩))
  have N7 := hN
  clear hS hN
  go_wp2
  go_loopw [3, 4, 5, 6, 7] (fun i _ _ _ _ wr => ∃ j : Nat, j ≤ 120 ∧ i = .int .i64 j ∧ Hid (New w wr)) (fun i _ _ _ _ _ => 120 - (intOf i).toNat)
  case atStart => exact ⟨0, Nat.zero_le _, rfl, N7⟩
  case round =>
    obtain ⟨j, hj, rfl, hn⟩ := hrel
    obtain ⟨c0, c1, c2, c3, c4, c5, c6⟩ := HC.out wr hn.out
    by_cases hlt : j < 120
    · go_wp2_with fail
      refine (read_any b ow A j _ (HB.out.newer hn.out).sys.log.disk HSML.out HWT.out).mono ?_
      rintro e w9 ⟨v9, rfl, hv9, n9⟩
      obtain ⟨p9, m9, k9, rfl⟩ : ∃ p m k, v9 = .slice p m k := by obtain ⟨⟨p, c, e, _⟩, _⟩ := hv9; exact ⟨_, _, _, e⟩
      have N9 := hid (hn.out.trans n9)
      have V9 := hid hv9
      clear c0 c1 c2 c3 c4 c5 c6 hv9 n9
      obtain ⟨c0, c1, c2, c3, c4, c5, c6⟩ := HC.out w9 N9.out
      go_wp2_with fail
      refine (refRead_any rb rw A j _ (HB.out.newer N9.out).ref.disk HSML.out HWT.out).mono ?_
      rintro e wx ⟨vx, rfl, hvx, nx⟩
      obtain ⟨px, mx, kx, rfl⟩ : ∃ p m k, vx = .slice p m k := by obtain ⟨⟨p, c, e, _⟩, _⟩ := hvx; exact ⟨_, _, _, e⟩
      have NX := hid (N9.out.trans nx)
      have kc1 := (V9.out.new nx).1.convert (P := Tryz.prog) 29 5 9 Tryz.underlying29 Tryz.underlying5 Tryz.underlying9
      have kc2 := hvx.1.convert (P := Tryz.prog) 29 5 9 Tryz.underlying29 Tryz.underlying5 Tryz.underlying9
      clear c0 c1 c2 c3 c4 c5 c6 hvx nx V9 N9
      go_wp2
      go_roundw
      case rel => exact ⟨j + 1, by omega, by go_num, NX⟩
      case measure => simp [intOf]; omega
    · obtain rfl : j = 120 := by omega
      go_wp2
      go_ret
      exact ⟨rfl, hn.out⟩
end Go.Proofs.YtdccbceaajnajaaGreat
