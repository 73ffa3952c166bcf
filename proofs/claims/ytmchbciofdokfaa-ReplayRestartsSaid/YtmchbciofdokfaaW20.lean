/- add at every record, of: the world of records. Sound, Units, Committed, Page, asked, Stands: what they return by the world of records. -/
import Derived.Test.YtmchbciofdokfaaW11
import Derived.Test.YtmchbciofdokfaaW13
import Derived.Test.YtmchbciofdokfaaW15
import Derived.Test.YtmchbciofdokfaaW17T
import Derived.Test.YtmchbciofdokfaaW17F
import Derived.Test.YtmchbciofdokfaaW18
namespace Go.Proofs.Ytmchbciofdokfaa
open Go.RowKit
open Go.ChangeMaps (setBlock)
set_option linter.unusedSimpArgs false
set_option linter.unusedVariables false

theorem asc_length : ∀ {l : List Nat} {a n : Nat}, l.Pairwise (· < ·) → (∀ k ∈ l, a < k ∧ k ≤ n) → l.length + a ≤ n ∨ l = []
  | [], _, _, _, _ => .inr rfl
  | x :: l, a, n, h, hm => by
    rw [List.pairwise_cons] at h
    have hx := hm x (by simp)
    left
    rcases asc_length (a := x) (n := n) h.2 (fun k hk => ⟨h.1 k hk, (hm k (by simp [hk])).2⟩) with h1 | h1
    · rw [List.length_cons]
      omega
    · rw [h1]
      simp
      omega
theorem good_lefts {l : List Rec} {W : PW} (G : Good l W) (n : Int) : (W.unit n).left.length ≤ l.length := by
  rcases asc_length (a := 0) (n := l.length) (G.sorted n) (fun k hk => by have := G.left n k hk; omega) with h | h
  · omega
  · rw [h]
    exact Nat.zero_le _
theorem good_sane {l : List Rec} {W : PW} (G : Good l W) (hl : l.length ≤ 1000) : Sane W := by
  have hr := G.recs
  refine ⟨fun n k hk => ?_, G.page, by rw [hr]; exact hl, fun n => Nat.le_trans (good_lefts G n) hl, G.st⟩
  obtain ⟨h1, h2, h3, h4, h5⟩ := G.left n k hk
  rw [hr]
  exact ⟨h1, h2, valid_place h5 (by rw [lays, h3]; rfl)⟩
theorem wins_length {l : List Rec} {W : PW} (G : Good l W) : W.wins.length ≤ l.length := by
  rw [G.wins, winsOf, List.length_map]
  exact List.length_filter_le _ _
theorem add_any (w0 : World) (wb : Nat) (S : WSh) (W : PW) (l : List Rec) (r : Rec) (bv av uv : Value) (w : World) (h : WorldAt w0 w wb S W) (hr : RecAt w0 r bv av uv) (G : Good l W) (hl : l.length ≤ 1000) (hlk : ∀ x ∈ S.lu, 0 ≤ x.1 ∧ x.1 ≤ 1000000) (hll : S.lu.length ≤ 10000) :
    Calls Try.prog 62 #[.pointer (some ⟨wb, 0, none⟩), .agg (recCells r bv av uv)] w (AddIs w0 wb S W r) := by
  have hs := good_sane G hl
  by_cases hv : validB r = true
  case neg => exact add_bad w0 wb S W r bv av uv w h.new hr (by simpa using hv)
  by_cases hu : r.unit = 0
  · by_cases h6 : r.kind = 6
    · exact add_mark w0 wb S W r bv av uv w h hr hs hv h6 hu G.zero hlk hll G.unseen
    · by_cases h7 : r.kind = 7
      · exact add_loose w0 wb S W r bv av uv w h hr hs hv h7 hu G.zero
      · exact add_zero w0 wb S W r bv av uv w h.new hr hv hu h6 h7
  · rcases valid_kind hv with k | k | k | k | k | k | k
    · exact add_change w0 wb S W r bv av uv w h hr hs hv k hu
    · cases hB : ((W.unit r.unit).st == 1)
      · exact add_undoneF w0 wb S W r bv av uv w h hr hs hv k hu hB
      · exact add_undoneT w0 wb S W r bv av uv w h hr hs hv k hu hB
    · exact add_commit w0 wb S W r bv av uv w h hr hs hv k hu (Nat.le_trans (wins_length G) hl)
    · exact add_over w0 wb S W r bv av uv w h hr hs hv k hu
    · exact add_ready w0 wb S W r bv av uv w h hr hs hv k hu
    · exact absurd (valid_zero hv k) hu
    · exact add_text w0 wb S W r bv av uv w h hr hs hv k hu
/-- What of returns. -/
def OfIs (l : List Rec) (w : World) (e : Ending) (w' : World) : Prop :=
  (walkW l = none ∧ e = .returned (.pointer none) ∧ New w w') ∨
  (∃ W wb S, walkW l = some W ∧ e = .returned (.pointer (some ⟨wb, 0, none⟩)) ∧ WorldAt w w' wb S W ∧ S.lu.length ≤ l.length ∧ ∀ x ∈ S.lu, 0 ≤ x.1 ∧ x.1 ≤ 1000000)
structure Walking (l : List Rec) (w wr : World) (wb k : Nat) (W : PW) (S : WSh) : Prop where
  walk : walkW (l.take k) = some W
  at_ : WorldAt w wr wb S W
  len : S.lu.length ≤ k
  keys : ∀ x ∈ S.lu, 0 ≤ x.1 ∧ x.1 ≤ 1000000
theorem Walking.next {l : List Rec} {w wr w' : World} {wb k : Nat} {W : PW} {S S' : WSh} (h : Walking l w wr wb k W S) (hk : k < l.length) (ho : Ok W l[k]) (hw : WorldAt w w' wb S' (next W l[k])) (h1 : S'.lu.length ≤ S.lu.length + 1) (h2 : ∀ x ∈ S'.lu, (∃ y ∈ S.lu, y.1 = x.1) ∨ x.1 = l[k].unit) :
    Walking l w w' wb (k + 1) (Go.Proofs.Ytmchbciofdokfaa.next W l[k]) S' := by
  refine ⟨by rw [List.take_succ_eq_append_getElem hk]; exact walk_yes h.walk ho, hw, by have := h.len; omega, fun x hx => ?_⟩
  rcases h2 x hx with ⟨y, hy, e⟩ | e
  · rw [← e]
    exact h.keys y hy
  · rw [e]
    exact valid_unit ho.valid
theorem Walking.stop {l : List Rec} {w wr : World} {wb k : Nat} {W : PW} {S : WSh} (h : Walking l w wr wb k W S) (hk : k < l.length) (ho : ¬ Ok W l[k]) : walkW l = none := by
  refine walk_take_none (k := k + 1) ?_
  rw [List.take_succ_eq_append_getElem hk]
  exact walk_no h.walk ho
def NewBare (w0 w : World) (e : Ending) (w' : World) : Prop := ∃ wb S, e = .returned (.pointer (some ⟨wb, 0, none⟩)) ∧ S.lu = [] ∧ WorldAt w0 w' wb S pw0
theorem newWorld_bare (w0 w : World) (h : New w0 w) : Calls Try.prog 61 #[] w (NewBare w0 w) := by
  have hmm := @run_makeMap Try.prog
  have H := hid h
  have M1 := hid (imap_made w)
  have M2 := hid (imap_made (w.alloc (.map #[] 0)))
  have M3 := hid (imap_made ((w.alloc (.map #[] 0)).alloc (.map #[] 0)))
  have hs := h.size
  go_enter Try.func61, Try.ntmps61
  go_wp2
  go_ret
  generalize e1 : w.alloc (.map #[] 0) = w1 at *
  generalize e2 : w1.alloc (.map #[] 0) = w2 at *
  generalize e3 : w2.alloc (.map #[] 0) = w3 at *
  have s1 : w1.heap.size = w.heap.size + 1 := by rw [← e1]; simp
  have s2 : w2.heap.size = w.heap.size + 2 := by rw [← e2]; simp [s1]
  have s3 : w3.heap.size = w.heap.size + 3 := by rw [← e3]; simp [s2]
  have n1 : New w w1 := e1 ▸ Below.alloc (New.refl w) (Nat.le_refl _) _
  have n2 : New w1 w2 := e2 ▸ Below.alloc (New.refl w1) (Nat.le_refl _) _
  have n3 : New w2 w3 := e3 ▸ Below.alloc (New.refl w2) (Nat.le_refl _) _
  have n4 := Below.alloc (New.refl w3) (Nat.le_refl _) (.cells #[.slice none 0 0, .map (some w.heap.size), .map (some (w.heap.size + 1)), .map (some (w.heap.size + 1 + 1)), .slice none 0 0] 64)
  have b4 := alloc_block w3 (.cells #[.slice none 0 0, .map (some w.heap.size), .map (some (w.heap.size + 1)), .map (some (w.heap.size + 1 + 1)), .slice none 0 0] 64)
  have m1 := M1.out
  have m2 := M2.out
  have m3 := M3.out
  rw [s1] at m2
  rw [s2] at m3
  rw [s3] at b4
  generalize w3.alloc (.cells #[.slice none 0 0, .map (some w.heap.size), .map (some (w.heap.size + 1)), .map (some (w.heap.size + 1 + 1)), .slice none 0 0] 64) = w4 at *
  have k1 : IMap w4 w.heap.size [] := m1.keep (Below.block ((n2.trans n3).trans n4) _ (by omega))
  have k2 : IMap w4 (w.heap.size + 1) [] := m2.keep (Below.block (n3.trans n4) _ (by omega))
  have k3 : IMap w4 (w.heap.size + 2) [] := m3.keep (Below.block n4 _ (by omega))
  refine ⟨w.heap.size + 3, ⟨w.heap.size, w.heap.size + 1, w.heap.size + 2, .slice none 0 0, .slice none 0 0, [], [], []⟩, rfl, rfl, ⟨H.out.trans (((n1.trans n2).trans n3).trans n4), b4, ⟨[], World.ownsRow_nil _ _ _ _, RecCells.nil _⟩, World.ownsRow_nil _ _ _ _, ⟨k1, fun p hp => (by cases hp), fun _ _ => rfl, List.nodup_nil⟩, ⟨k2, fun _ => rfl⟩, ⟨k3, fun p hp => (by cases hp), fun _ _ => rfl, List.nodup_nil, fun p hp => (by cases hp)⟩, fun k hk => (by cases hk), ⟨by show w.heap.size ≠ w.heap.size + 1; omega, by show w.heap.size ≠ w.heap.size + 2; omega, by show w.heap.size + 1 ≠ w.heap.size + 2; omega⟩, ⟨by omega, hs, by show _ ≤ w.heap.size + 1; omega, by show _ ≤ w.heap.size + 2; omega⟩, fun k hk => ?_, fun p hp => (by cases hp), fun p hp => (by cases hp)⟩⟩
  rcases hk with hk | hk | ⟨x, hx, _⟩
  · cases hk
  · cases hk
  · cases hx

set_option maxRecDepth 100000 in
set_option maxHeartbeats 2000000 in
theorem of_any (v : Value) (l : List Rec) (w : World) (h : Recs w v l) (hl : l.length ≤ 1000) : Calls Try.prog 32 #[v] w (OfIs l w) := by
  obtain ⟨p, c, rfl, hc, hm⟩ := h.form
  have H := hid h
  have HL := hid hl
  unfold maxLen at hm
  clear h
  go_enter Try.func32, Try.ntmps32
  go_wp2_with fail
  refine (newWorld_bare w w (New.refl w)).mono ?_
  rintro e w1 ⟨wb, S1, rfl, hlu, h1⟩
  have H1 : Hid (Walking l w w1 wb 0 pw0 S1) := hid ⟨by rw [List.take_zero]; exact walk_nil, h1, by rw [hlu]; exact Nat.le_refl _, fun x hx => by rw [hlu] at hx; cases hx⟩
  clear h1 hlu
  go_wp2_with fail
  go_loopw [5, 9] (fun _ i wr => ∃ k : Nat, k ≤ l.length ∧ i = .int .i64 k ∧ Hid (∃ W S, Walking l w wr wb k W S)) (fun _ i _ => l.length - (intOf i).toNat)
  case atStart => exact ⟨0, Nat.zero_le _, rfl, hid ⟨_, _, H1.out⟩⟩
  case round =>
    obtain ⟨k, hk, rfl, hW⟩ := hrel
    obtain ⟨W, S, HW0⟩ := hW.out
    have HW := hid HW0
    clear HW0 hW H1
    by_cases hlt : k < l.length
    · obtain ⟨b, o, p1, c1, p2, c2, p3, c3, rfl, hb, hra, hcells⟩ := recs_facts H.out HW.out.at_.new hlt
      obtain ⟨y20, y21, y22, y23, y24, y25, y26, y27, y28, y29⟩ := rec_ten (hcells _ (New.refl _))
      have HRA := hid hra
      have HNEXT : Hid (∀ S' w', Ok W l[k] → WorldAt w w' wb S' (next W l[k]) → S'.lu.length ≤ S.lu.length + 1 → (∀ x ∈ S'.lu, (∃ y ∈ S.lu, y.1 = x.1) ∨ x.1 = l[k].unit) → Walking l w w' wb (k + 1) (next W l[k]) S') := hid (fun S' w' a b c d => HW.out.next hlt a b c d)
      have HSTOP := hid (HW.out.stop hlt)
      have HG := hid (good HW.out.walk)
      have HTL : Hid ((l.take k).length ≤ 1000) := hid (by rw [List.length_take]; have := HL.out; omega)
      have HLU : Hid (S.lu.length ≤ 10000) := hid (by have := HW.out.len; omega)
      have NA := hid (Below.alloc (New.refl wr) (Nat.le_refl _) (.cells (recCells l[k] (.slice p1 l[k].before.size c1) (.slice p2 l[k].after.size c2) (.slice p3 l[k].units.length c3)) 36))
      clear hra hcells
      generalize l[k] = r at *
      go_wp2_with fail
      refine (add_any w wb S W _ r _ _ _ _ (HW.out.at_.newer NA.out) HRA.out HG.out HTL.out HW.out.keys HLU.out).mono ?_
      rintro e w2 (⟨hno, rfl, hn⟩ | ⟨hok, rfl, S', hw, h1, h2⟩)
      · have HX : Hid (OfIs l w (.returned (.pointer none)) w2) := hid (.inl ⟨HSTOP.out hno, rfl, hn⟩)
        clear hno hn
        go_wp2
        go_ret
        exact HX.out
      · have HX := hid (HNEXT.out _ _ hok hw h1 h2)
        clear hok hw h1 h2
        go_wp2
        go_roundw
        case rel => exact ⟨k + 1, by omega, by go_num, hid ⟨_, _, HX.out⟩⟩
        case measure => simp [intOf]; omega
    · obtain rfl : k = l.length := by omega
      have HE : Hid (walkW l = some W) := hid (by have := HW.out.walk; rwa [List.take_length] at this)
      go_wp2
      go_ret
      exact .inr ⟨W, wb, S, HE.out, rfl, HW.out.at_, HW.out.len, HW.out.keys⟩
end Go.Proofs.Ytmchbciofdokfaa

namespace Go.Proofs.Ytmchbciofdokfaa
open Go.RowKit
open Go.ChangeMaps (setBlock)
set_option linter.unusedSimpArgs false
set_option linter.unusedVariables false

def SoundIs (l : List Rec) (w : World) (e : Ending) (w' : World) : Prop := e = .returned (.bool (walkW l).isSome) ∧ New w w'
theorem sound_any (v : Value) (l : List Rec) (w : World) (h : Recs w v l) (hl : l.length ≤ 1000) : Calls Try.prog 21 #[v] w (SoundIs l w) := by
  have H := hid h
  have HL := hid hl
  clear h
  go_enter Try.func21, Try.ntmps21
  go_wp2_with fail
  refine (of_any _ l _ H.out HL.out).mono ?_
  rintro e w1 (⟨hn, rfl, n1⟩ | ⟨W, wb, S, hs, rfl, hw, h1, h2⟩)
  · have HX : Hid (SoundIs l w (.returned (.bool false)) w1) := hid ⟨by rw [hn]; rfl, n1⟩
    clear hn n1
    go_wp2
    go_ret
    exact HX.out
  · have HX : Hid (SoundIs l w (.returned (.bool true)) w1) := hid ⟨by rw [hs]; rfl, hw.new⟩
    clear hs hw h1 h2
    go_wp2
    go_ret
    exact HX.out
/-- What Units returns. -/
def UnitsIs (l : List Rec) (w : World) (e : Ending) (w' : World) : Prop :=
  (walkW l = none ∧ e = .returned (.tuple #[.slice none 0 0, .int .i64 50]) ∧ New w w') ∨
  (∃ W v o, walkW l = some W ∧ e = .returned (.tuple #[v, .int .i64 0]) ∧ IsOpens W.unit o ∧ w'.ownsRow w.heap.size 47 3 v o.length (opnVals o) ∧ New w w')
theorem units_any (v : Value) (l : List Rec) (w : World) (h : Recs w v l) (hl : l.length ≤ 1000) : Calls Try.prog 25 #[v] w (UnitsIs l w) := by
  have H := hid h
  have HL := hid hl
  clear h
  go_enter Try.func25, Try.ntmps25
  go_wp2_with fail
  refine (of_any _ l _ H.out HL.out).mono ?_
  rintro e w1 (⟨hn, rfl, n1⟩ | ⟨W, wb, S, hs, rfl, hw, h1, h2⟩)
  · have HX : Hid (UnitsIs l w (.returned (.tuple #[.slice none 0 0, .int .i64 50])) w1) := hid (.inl ⟨hn, rfl, n1⟩)
    clear hn n1
    go_wp2
    go_ret2
    exact HX.out
  · have HW := hid hw
    have HS := hid hs
    have HG := hid (good hs)
    have HSA := hid (good_sane HG.out HL.out)
    have HLU : Hid (S.lu.length ≤ 10000) := hid (by omega)
    have HK := hid h2
    clear hs hw h1 h2
    go_wp2_with fail
    refine (open_any _ wb S W _ HW.out HSA.out HK.out HLU.out HG.out.unseen).mono ?_
    rintro e w2 ⟨v2, o, rfl, ho, hrow, hn⟩
    have HX : Hid (UnitsIs l w (.returned (.tuple #[v2, .int .i64 0])) w2) := hid (.inr ⟨W, v2, o, HS.out, rfl, ho, ownsRow_base_a hrow HW.out.new.size, HW.out.new.trans hn⟩)
    clear ho hrow hn
    go_wp2
    go_ret2
    exact HX.out
/-- What Committed returns. -/
def CommittedIs (l : List Rec) (w : World) (e : Ending) (w' : World) : Prop :=
  (walkW l = none ∧ e = .returned (.tuple #[.slice none 0 0, .int .i64 50]) ∧ New w w') ∨
  (∃ W v, walkW l = some W ∧ e = .returned (.tuple #[v, .int .i64 0]) ∧ RowAt w' v (winsOf l).length ((winsOf l).map (Value.int .i64)) ∧ New w w')
theorem committed_any (v : Value) (l : List Rec) (w : World) (h : Recs w v l) (hl : l.length ≤ 1000) : Calls Try.prog 13 #[v] w (CommittedIs l w) := by
  have H := hid h
  have HL := hid hl
  clear h
  go_enter Try.func13, Try.ntmps13
  go_wp2_with fail
  refine (of_any _ l _ H.out HL.out).mono ?_
  rintro e w1 (⟨hn, rfl, n1⟩ | ⟨W, wb, S, hs, rfl, hw, h1, h2⟩)
  · have HX : Hid (CommittedIs l w (.returned (.tuple #[.slice none 0 0, .int .i64 50])) w1) := hid (.inl ⟨hn, rfl, n1⟩)
    clear hn n1
    go_wp2
    go_ret2
    exact HX.out
  · have HX : Hid (CommittedIs l w (.returned (.tuple #[S.wv, .int .i64 0])) w1) := hid (.inr ⟨W, S.wv, hs, rfl, by
      have := RowAt.owned hw.wins
      rw [(good hs).wins] at this
      exact this, hw.new⟩)
    obtain ⟨-, -, -, -, c4⟩ := hw.cells
    obtain ⟨pr, cr, -, pv, cv, hwv⟩ := hw.rows
    rw [hwv] at HX c4
    clear hs hw h1 h2 hwv
    go_wp2
    go_ret2
    exact HX.out
/-- What Page returns. -/
def PageBack (l : List Rec) (n : Int) (w : World) (e : Ending) (w' : World) : Prop :=
  (walkW l = none ∧ e = .returned (.tuple #[.slice none 0 0, .int .i64 0, .int .i64 50]) ∧ New w w') ∨
  (walkW l ≠ none ∧ ¬ (0 ≤ n ∧ n < 120) ∧ e = .returned (.tuple #[.slice none 0 0, .int .i64 0, .int .i64 2]) ∧ New w w') ∨
  (∃ W b, walkW l = some W ∧ 0 ≤ n ∧ n < 120 ∧ e = .returned (.tuple #[.slice (some ⟨b, 0, none⟩) 128 128, .int .i64 (W.stamp n.toNat : Int), .int .i64 0]) ∧ Bytes w' (.slice (some ⟨b, 0, none⟩) 128 128) (W.page n.toNat) ∧ New w w')
theorem whole_page {w0 w : World} {wb : Nat} {S : WSh} {W : PW} (h : WorldAt w0 w wb S W) {n b : Nat} (hb : ((n : Int), b) ∈ S.lp) (hz : (W.page n).size = 128) : Bytes w (.slice (some ⟨b, 0, none⟩) 128 128) (W.page n) := by
  have := page_part h hb hz (o := 0) (k := 128) (c := 128) (by omega) (by omega) (by omega)
  have e : partB (W.page n) 0 128 = W.page n := by
    unfold partB
    rw [List.drop_zero, List.take_of_length_le (by rw [data_len, hz]; omega), bytesOf_data]
  rwa [e] at this
theorem stamp_look {w0 w : World} {wb : Nat} {S : WSh} {W : PW} (h : WorldAt w0 w wb S W) (z : Nat) : (Instr.lookup 61 (.map (some S.sm)) (.int .i64 (z : Int)) false).run Try.prog w = .ok (.int .i64 (W.stamp z : Int)) w := by
  rw [run_look (t := 61) (k := 3) (e := 3) Try.underlying61 Try.underlying3 (Try.zeroValue3 w) h.stamps.map (z : Int), ← h.stamps.stamp z]
  congr 1
  unfold look stampL
  have e : ((fun p : Int × Value => p.1 == (z : Int)) ∘ fun p : Int × Int => (p.1, Value.int .i64 p.2)) = fun p => p.1 == (z : Int) := rfl
  rw [List.find?_map, e]
  cases S.ls.find? (fun p => p.1 == (z : Int)) with
  | none => rfl
  | some p => rfl
set_option maxRecDepth 100000 in
set_option maxHeartbeats 2000000 in
theorem pageBack_any (v : Value) (l : List Rec) (n : Int) (w : World) (h : Recs w v l) (hl : l.length ≤ 1000) : Calls Try.prog 19 #[v, .int .i64 n] w (PageBack l n w) := by
  have H := hid h
  have HL := hid hl
  clear h
  go_enter Try.func19, Try.ntmps19
  go_wp2_with fail
  refine (of_any _ l _ H.out HL.out).mono ?_
  rintro e w1 (⟨hn, rfl, n1⟩ | ⟨W, wb, S, hs, rfl, hw, h1, h2⟩)
  · have HX : Hid (PageBack l n w (.returned (.tuple #[.slice none 0 0, .int .i64 0, .int .i64 50])) w1) := hid (.inl ⟨hn, rfl, n1⟩)
    clear hn n1
    go_wp2
    go_ret3
    exact HX.out
  · have HW := hid hw
    have HS := hid hs
    have HG := hid (good hs)
    clear hs hw h1 h2
    by_cases hn0 : n < 0
    · have HX : Hid (PageBack l n w (.returned (.tuple #[.slice none 0 0, .int .i64 0, .int .i64 2])) w1) := hid (.inr (.inl ⟨by rw [HS.out]; simp, by omega, rfl, HW.out.new⟩))
      have t0 : decide (n < 0) = true := by simpa using hn0
      clear hn0
      go_wp2
      go_ret3
      exact HX.out
    have t0 : decide (n < 0) = false := by simpa using hn0
    by_cases hn1 : 120 ≤ n
    · have HX : Hid (PageBack l n w (.returned (.tuple #[.slice none 0 0, .int .i64 0, .int .i64 2])) w1) := hid (.inr (.inl ⟨by rw [HS.out]; simp, by omega, rfl, HW.out.new⟩))
      have t1 : decide (120 ≤ n) = true := by simpa using hn1
      clear hn0 hn1
      go_wp2
      go_ret3
      exact HX.out
    have t1 : decide (120 ≤ n) = false := by simpa using hn1
    obtain ⟨z, rfl⟩ : ∃ z : Nat, n = (z : Int) := ⟨n.toNat, by omega⟩
    have HB : Hid (0 ≤ (z : Int) ∧ (z : Int) < 120) := hid ⟨by omega, by omega⟩
    clear hn0 hn1
    have H1d := hid (HW.out.newer (New.refl w1).drew)
    obtain ⟨c0, c1, c2, c3, c4⟩ := H1d.out.cells
    have lk1 := stamp_look H1d.out z
    go_wp2_with fail
    go_region_with (go_at_call 45; refine (page_any w wb S W z _ (H1d.out)).mono ?_; rintro e w2 ⟨b, lp, rfl, h2, hbl, t2⟩; have H2 := hid h2; have HBL := hid hbl; have lk2 := stamp_look h2 z; obtain ⟨d0, d1, d2, d3, d4⟩ := h2.cells; clear h2 hbl t2)
    all_goals
      have HX : Hid (PageBack l (z : Int) w (.returned (.tuple #[.slice (some ⟨b, 0, none⟩) 128 128, .int .i64 (W.stamp z : Int), .int .i64 0])) w2) := hid (.inr (.inr ⟨W, b, HS.out, HB.out.1, HB.out.2, by rw [Int.toNat_natCast], by rw [Int.toNat_natCast]; exact whole_page H2.out HBL.out (HG.out.page z), H2.out.new⟩))
      go_wp2
      go_ret3
      exact HX.out
end Go.Proofs.Ytmchbciofdokfaa
