/- Sound, Units, Committed, Page, asked, Stands: what they return by the world of records. -/
import Derived.Test.YtmchbciofdokfaaW19
namespace Go.Proofs.Ytmchbciofdokfaa
open Go.RowKit
open Go.ChangeMaps (setBlock)
set_option linter.unusedSimpArgs false
set_option linter.unusedVariables false

def SoundIs (l : List Rec) (w : World) (e : Ending) (w' : World) : Prop := e = .returned (.bool (walkW l).isSome) ∧ New w w'
theorem sound_any (v : Value) (l : List Rec) (w : World) (h : Recs w v l) (hl : l.length ≤ 1000) : Calls Try.prog 21 #[v] w (SoundIs l w) := by
  have H := hid h
  have HL := hid hl
  clear h
  go_enter Try.func21, Try.ntmps21
  go_wp2_with fail
  refine (of_any _ l _ H.out HL.out).mono ?_
  rintro e w1 (⟨hn, rfl, n1⟩ | ⟨W, wb, S, hs, rfl, hw, h1, h2⟩)
  · have HX : Hid (SoundIs l w (.returned (.bool false)) w1) := hid ⟨by rw [hn]; rfl, n1⟩
    clear hn n1
    go_wp2
    go_ret
    exact HX.out
  · have HX : Hid (SoundIs l w (.returned (.bool true)) w1) := hid ⟨by rw [hs]; rfl, hw.new⟩
    clear hs hw h1 h2
    go_wp2
    go_ret
    exact HX.out
/-- What Units returns. -/
def UnitsIs (l : List Rec) (w : World) (e : Ending) (w' : World) : Prop :=
  (walkW l = none ∧ e = .returned (.tuple #[.slice none 0 0, .int .i64 50]) ∧ New w w') ∨
  (∃ W v o, walkW l = some W ∧ e = .returned (.tuple #[v, .int .i64 0]) ∧ IsOpens W.unit o ∧ w'.ownsRow w.heap.size 47 3 v o.length (opnVals o) ∧ New w w')
theorem units_any (v : Value) (l : List Rec) (w : World) (h : Recs w v l) (hl : l.length ≤ 1000) : Calls Try.prog 25 #[v] w (UnitsIs l w) := by
  have H := hid h
  have HL := hid hl
  clear h
  go_enter Try.func25, Try.ntmps25
  go_wp2_with fail
  refine (of_any _ l _ H.out HL.out).mono ?_
  rintro e w1 (⟨hn, rfl, n1⟩ | ⟨W, wb, S, hs, rfl, hw, h1, h2⟩)
  · have HX : Hid (UnitsIs l w (.returned (.tuple #[.slice none 0 0, .int .i64 50])) w1) := hid (.inl ⟨hn, rfl, n1⟩)
    clear hn n1
    go_wp2
    go_ret2
    exact HX.out
  · have HW := hid hw
    have HS := hid hs
    have HG := hid (good hs)
    have HSA := hid (good_sane HG.out HL.out)
    have HLU : Hid (S.lu.length ≤ 10000) := hid (by omega)
    have HK := hid h2
    clear hs hw h1 h2
    go_wp2_with fail
    refine (open_any _ wb S W _ HW.out HSA.out HK.out HLU.out HG.out.unseen).mono ?_
    rintro e w2 ⟨v2, o, rfl, ho, hrow, hn⟩
    have HX : Hid (UnitsIs l w (.returned (.tuple #[v2, .int .i64 0])) w2) := hid (.inr ⟨W, v2, o, HS.out, rfl, ho, ownsRow_base_a hrow HW.out.new.size, HW.out.new.trans hn⟩)
    clear ho hrow hn
    go_wp2
    go_ret2
    exact HX.out
/-- What Committed returns. -/
def CommittedIs (l : List Rec) (w : World) (e : Ending) (w' : World) : Prop :=
  (walkW l = none ∧ e = .returned (.tuple #[.slice none 0 0, .int .i64 50]) ∧ New w w') ∨
  (∃ W v, walkW l = some W ∧ e = .returned (.tuple #[v, .int .i64 0]) ∧ RowAt w' v (winsOf l).length ((winsOf l).map (Value.int .i64)) ∧ New w w')
theorem committed_any (v : Value) (l : List Rec) (w : World) (h : Recs w v l) (hl : l.length ≤ 1000) : Calls Try.prog 13 #[v] w (CommittedIs l w) := by
  have H := hid h
  have HL := hid hl
  clear h
  go_enter Try.func13, Try.ntmps13
  go_wp2_with fail
  refine (of_any _ l _ H.out HL.out).mono ?_
  rintro e w1 (⟨hn, rfl, n1⟩ | ⟨W, wb, S, hs, rfl, hw, h1, h2⟩)
  · have HX : Hid (CommittedIs l w (.returned (.tuple #[.slice none 0 0, .int .i64 50])) w1) := hid (.inl ⟨hn, rfl, n1⟩)
    clear hn n1
    go_wp2
    go_ret2
    exact HX.out
  · have HX : Hid (CommittedIs l w (.returned (.tuple #[S.wv, .int .i64 0])) w1) := hid (.inr ⟨W, S.wv, hs, rfl, by
      have := RowAt.owned hw.wins
      rw [(good hs).wins] at this
      exact this, hw.new⟩)
    obtain ⟨-, -, -, -, c4⟩ := hw.cells
    obtain ⟨pr, cr, -, pv, cv, hwv⟩ := hw.rows
    rw [hwv] at HX c4
    clear hs hw h1 h2 hwv
    go_wp2
    go_ret2
    exact HX.out
/-- What Page returns. -/
def PageBack (l : List Rec) (n : Int) (w : World) (e : Ending) (w' : World) : Prop :=
  (walkW l = none ∧ e = .returned (.tuple #[.slice none 0 0, .int .i64 0, .int .i64 50]) ∧ New w w') ∨
  (walkW l ≠ none ∧ ¬ (0 ≤ n ∧ n < 120) ∧ e = .returned (.tuple #[.slice none 0 0, .int .i64 0, .int .i64 2]) ∧ New w w') ∨
  (∃ W b, walkW l = some W ∧ 0 ≤ n ∧ n < 120 ∧ e = .returned (.tuple #[.slice (some ⟨b, 0, none⟩) 128 128, .int .i64 (W.stamp n.toNat : Int), .int .i64 0]) ∧ Bytes w' (.slice (some ⟨b, 0, none⟩) 128 128) (W.page n.toNat) ∧ New w w')
theorem whole_page {w0 w : World} {wb : Nat} {S : WSh} {W : PW} (h : WorldAt w0 w wb S W) {n b : Nat} (hb : ((n : Int), b) ∈ S.lp) (hz : (W.page n).size = 128) : Bytes w (.slice (some ⟨b, 0, none⟩) 128 128) (W.page n) := by
  have := page_part h hb hz (o := 0) (k := 128) (c := 128) (by omega) (by omega) (by omega)
  have e : partB (W.page n) 0 128 = W.page n := by
    unfold partB
    rw [List.drop_zero, List.take_of_length_le (by rw [data_len, hz]; omega), bytesOf_data]
  rwa [e] at this
theorem stamp_look {w0 w : World} {wb : Nat} {S : WSh} {W : PW} (h : WorldAt w0 w wb S W) (z : Nat) : (Instr.lookup 61 (.map (some S.sm)) (.int .i64 (z : Int)) false).run Try.prog w = .ok (.int .i64 (W.stamp z : Int)) w := by
  rw [run_look (t := 61) (k := 3) (e := 3) Try.underlying61 Try.underlying3 (Try.zeroValue3 w) h.stamps.map (z : Int), ← h.stamps.stamp z]
  congr 1
  unfold look stampL
  have e : ((fun p : Int × Value => p.1 == (z : Int)) ∘ fun p : Int × Int => (p.1, Value.int .i64 p.2)) = fun p => p.1 == (z : Int) := rfl
  rw [List.find?_map, e]
  cases S.ls.find? (fun p => p.1 == (z : Int)) with
  | none => rfl
  | some p => rfl
set_option maxRecDepth 100000 in
set_option maxHeartbeats 2000000 in
theorem pageBack_any (v : Value) (l : List Rec) (n : Int) (w : World) (h : Recs w v l) (hl : l.length ≤ 1000) : Calls Try.prog 19 #[v, .int .i64 n] w (PageBack l n w) := by
  have H := hid h
  have HL := hid hl
  clear h
  go_enter Try.func19, Try.ntmps19
  go_wp2_with fail
  refine (of_any _ l _ H.out HL.out).mono ?_
  rintro e w1 (⟨hn, rfl, n1⟩ | ⟨W, wb, S, hs, rfl, hw, h1, h2⟩)
  · have HX : Hid (PageBack l n w (.returned (.tuple #[.slice none 0 0, .int .i64 0, .int .i64 50])) w1) := hid (.inl ⟨hn, rfl, n1⟩)
    clear hn n1
    go_wp2
    go_ret3
    exact HX.out
  · have HW := hid hw
    have HS := hid hs
    have HG := hid (good hs)
    clear hs hw h1 h2
    by_cases hn0 : n < 0
    · have HX : Hid (PageBack l n w (.returned (.tuple #[.slice none 0 0, .int .i64 0, .int .i64 2])) w1) := hid (.inr (.inl ⟨by rw [HS.out]; simp, by omega, rfl, HW.out.new⟩))
      have t0 : decide (n < 0) = true := by simpa using hn0
      clear hn0
      go_wp2
      go_ret3
      exact HX.out
    have t0 : decide (n < 0) = false := by simpa using hn0
    by_cases hn1 : 120 ≤ n
    · have HX : Hid (PageBack l n w (.returned (.tuple #[.slice none 0 0, .int .i64 0, .int .i64 2])) w1) := hid (.inr (.inl ⟨by rw [HS.out]; simp, by omega, rfl, HW.out.new⟩))
      have t1 : decide (120 ≤ n) = true := by simpa using hn1
      clear hn0 hn1
      go_wp2
      go_ret3
      exact HX.out
    have t1 : decide (120 ≤ n) = false := by simpa using hn1
    obtain ⟨z, rfl⟩ : ∃ z : Nat, n = (z : Int) := ⟨n.toNat, by omega⟩
    have HB : Hid (0 ≤ (z : Int) ∧ (z : Int) < 120) := hid ⟨by omega, by omega⟩
    clear hn0 hn1
    have H1d := hid (HW.out.newer (New.refl w1).drew)
    obtain ⟨c0, c1, c2, c3, c4⟩ := H1d.out.cells
    have lk1 := stamp_look H1d.out z
    go_wp2_with fail
    go_region_with (go_at_call 45; refine (page_any w wb S W z _ (H1d.out)).mono ?_; rintro e w2 ⟨b, lp, rfl, h2, hbl, t2⟩; have H2 := hid h2; have HBL := hid hbl; have lk2 := stamp_look h2 z; obtain ⟨d0, d1, d2, d3, d4⟩ := h2.cells; clear h2 hbl t2)
    all_goals
      have HX : Hid (PageBack l (z : Int) w (.returned (.tuple #[.slice (some ⟨b, 0, none⟩) 128 128, .int .i64 (W.stamp z : Int), .int .i64 0])) w2) := hid (.inr (.inr ⟨W, b, HS.out, HB.out.1, HB.out.2, by rw [Int.toNat_natCast], by rw [Int.toNat_natCast]; exact whole_page H2.out HBL.out (HG.out.page z), H2.out.new⟩))
      go_wp2
      go_ret3
      exact HX.out
end Go.Proofs.Ytmchbciofdokfaa
