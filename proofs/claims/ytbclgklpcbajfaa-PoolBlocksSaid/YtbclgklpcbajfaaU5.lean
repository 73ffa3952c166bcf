/- tape.Tape.Force, Record and Records. tape.Tape.Records, Record where there is none, and progenyref03.SameRecords. progenyref03.SameRecords over every two lists of records. -/
import Derived.Test.YtbclgklpcbajfaaU2
import Derived.Test.YtbclgklpcbajfaaA5
import Derived.Test.YtbclgklpcbajfaaA13
namespace Go.Proofs.Ytbclgklpcbajfaa
open Go.RowKit
set_option linter.unusedSimpArgs false
set_option linter.unusedVariables false

theorem TapeAt.marked {w : World} {tb b : Nat} {ot : Option Nat} {T : ATape} (h : TapeAt w tb ot b T) (n : Nat) :
    TapeAt ((w.setCell ⟨tb, 3, none⟩ (.bool false)).setCell ⟨tb, 2, none⟩ (.int .i64 (n : Int))) tb ot b { T with forced := n, late := false } ∧ Turn (· = tb) w ((w.setCell ⟨tb, 3, none⟩ (.bool false)).setCell ⟨tb, 2, none⟩ (.int .i64 (n : Int))) := by
  obtain ⟨v, e1, e2, xs, e3, e4⟩ := h
  have s1 := turn_set w tb 3 (.bool false)
  have s2 := s1.trans (turn_set _ tb 2 (.int .i64 (n : Int)))
  have b5 : Apart (· = tb) w := apart_of e1 (by decide)
  have b90 : Apart90 (· = tb) w := fun k c fr hk hh => by subst hk; exact type_ne e1 hh (by decide) rfl
  exact ⟨⟨v, heap_setCell_same _ tb 2 _ 130 _ (heap_setCell_same w tb 3 _ 130 _ e1), e2, xs, own_turn e3 s2 (fun k hk e => own_ne e3 e1 (by decide) (e ▸ hk)), e4.imp fun r _ _ _ hr => hr.turn s2 b5 b90⟩, s2⟩
theorem Log.marked {w0 w : World} {b tb : Nat} {ow ot : Option Nat} {A : ADisk} {T : ATape} (h : Log w0 w b ow tb ot A T) (n : Nat) :
    Log w0 ((w.setCell ⟨tb, 3, none⟩ (.bool false)).setCell ⟨tb, 2, none⟩ (.int .i64 (n : Int))) b ow tb ot A { T with forced := n, late := false } ∧ Turn (· = tb) w ((w.setCell ⟨tb, 3, none⟩ (.bool false)).setCell ⟨tb, 2, none⟩ (.int .i64 (n : Int))) := by
  obtain ⟨h1, h2⟩ := h.tape.marked n
  obtain ⟨v, e1, _⟩ := h.tape
  exact ⟨{ h with disk := disk_keep h.disk h2 (fun k hk => by subst hk; exact ⟨_, _, _, e1, by decide, by decide, by decide⟩), tape := h1, new := Below.trans h.new (h2.below (fun k e => e ▸ h.tt) h.new.size) }, h2⟩

def forceE (A : ADisk) (T : ATape) : Int := if T.late then actE A else 0
def forceA (A : ADisk) (T : ATape) : ADisk := if T.late then flushA A else A
def forceT (A : ADisk) (T : ATape) : ATape := if forceE A T = 0 then { T with forced := T.recs.length, late := false } else T
/-- What Force leaves. -/
def Forced (w0 : World) (b : Nat) (ow : Option Nat) (tb : Nat) (ot : Option Nat) (A : ADisk) (T : ATape) (w : World) (e : Ending) (w' : World) : Prop :=
  ∃ ow', e = .returned (.int .i64 (forceE A T)) ∧ Log w0 w' b ow' tb ot (forceA A T) (forceT A T) ∧ Turn (logs b ow tb ot) w w' ∧ (∀ k, ow' = some k → ow = some k ∨ w.heap.size ≤ k)

set_option maxRecDepth 100000 in
set_option maxHeartbeats 4000000 in
theorem force_any (w0 : World) (b : Nat) (ow : Option Nat) (tb : Nat) (ot : Option Nat) (A : ADisk) (T : ATape) (w : World) (hL : Log w0 w b ow tb ot A T) (hb1 : A.falls ≤ 1000000000) (hb2 : A.acts ≤ 1000000000) (hb3 : A.waits.length ≤ 1000000000) :
    Calls Try.prog 48 #[.pointer (some ⟨tb, 0, none⟩)] w (Forced w0 b ow tb ot A T w) := by
  obtain ⟨tp, tc, hc, hf⟩ := tape_cells hL.tape
  have LL := hid hL
  have B1 := hid hb1
  have B2 := hid hb2
  have B3 := hid hb3
  clear hL hb1 hb2 hb3
  cases hl : T.late with
  | false =>
    rw [hl] at hc
    have HL := hid hl
    clear hl
    go_enter Try.func48, Try.ntmps48
    go_wp2_with fail
    refine (tnone_no tb b _ (hc 0)).mono ?_
    rintro e w' ⟨rfl, rfl⟩
    go_wp2
    go_ret
    have hm := LL.out.marked T.recs.length
    have e1 : forceE A T = 0 := by simp [forceE, HL.out]
    refine ⟨ow, (by rw [e1]; rfl), ?_, hm.2.mono (fun k _ e => Or.inr (Or.inl e)), fun k h => .inl h⟩
    rw [show forceA A T = A by simp [forceA, HL.out], show forceT A T = { T with forced := T.recs.length, late := false } by simp only [forceT, if_pos e1]]
    exact hm.1
  | true =>
    rw [hl] at hc
    have HL := hid hl
    clear hl
    go_enter Try.func48, Try.ntmps48
    go_wp2_with fail
    refine (tnone_no tb b _ (hc 0)).mono ?_
    rintro e w' ⟨rfl, rfl⟩
    go_wp2_with fail
    refine (flush_any b ow A _ LL.out.disk B1.out B2.out B3.out).mono ?_
    rintro e w1 hm
    obtain ⟨ow', rfl, hl3, ht3, how⟩ := LL.out.moved hm
    have L1 := hid hl3
    have T1 := hid ht3
    have OW := hid how
    clear hm hl3 ht3 how hc hf
    have eE : forceE A T = actE A := by simp [forceE, HL.out]
    have eA : forceA A T = flushA A := by simp [forceA, HL.out]
    have EE := hid eE
    have EA := hid eA
    clear eE eA
    by_cases ha : actE A = 0
    · obtain ⟨tp, tc, hc, hf⟩ := tape_cells L1.out.tape
      rw [ha]
      have HA := hid ha
      clear ha
      go_wp2
      go_ret
      have hm := L1.out.marked T.recs.length
      refine ⟨ow', (by rw [EE.out, HA.out]; rfl), ?_, (T1.out.mono (fun k _ e => Or.inl e)).trans (hm.2.mono (fun k _ e => Or.inr (Or.inl e))), OW.out⟩
      rw [EA.out, show forceT A T = { T with forced := T.recs.length, late := false } by simp only [forceT, if_pos (EE.out.trans HA.out)]]
      exact hm.1
    · have q1 : (actE A == 0) = false := by simpa using ha
      have q2 : (actE A != 0) = true := by simpa using ha
      have HA := hid ha
      clear ha
      go_wp2
      go_ret
      have q3 : ¬ forceE A T = 0 := by rw [EE.out]; exact HA.out
      refine ⟨ow', (by rw [EE.out]; rfl), ?_, T1.out.mono (fun k _ e => Or.inl e), OW.out⟩
      rw [EA.out, show forceT A T = T by simp only [forceT, if_neg q3]]
      exact L1.out

/-- A record of a row of one's own. -/
theorem rec_row {w : World} {base g cap n : Nat} {xs : List Value} {l : List Rec} {P : Rec → Value → Value → Value → Prop} (hown : w.ownsRow base 25 10 (.slice (some ⟨g, 0, none⟩) n cap) n xs) (hc : RecCells P l xs) (hn : n = l.length) {i : Nat} (hi : i < l.length) :
    ∃ bv av uv, P l[i] bv av uv ∧ ∀ j, j < 10 → w.cell? ⟨g, i * 10 + j, none⟩ = (recCells l[i] bv av uv)[j]? := by
  obtain ⟨bv, av, uv, h1, h2⟩ := hc.2 i hi
  exact ⟨bv, av, uv, h1, fun j hj => by rw [hown.cellAt (i * 10 + j) (by omega)]; exact h2 j hj⟩
theorem rec_ten {w : World} {g o : Nat} {r : Rec} {bv av uv : Value} (h : ∀ j, j < 10 → w.cell? ⟨g, o + j, none⟩ = (recCells r bv av uv)[j]?) :
    w.cell? ⟨g, o, none⟩ = some (.int .i64 r.kind) ∧ w.cell? ⟨g, o + 1, none⟩ = some (.int .i64 r.unit) ∧ w.cell? ⟨g, o + 2, none⟩ = some (.int .i64 r.page) ∧ w.cell? ⟨g, o + 3, none⟩ = some (.int .i64 r.at_) ∧ w.cell? ⟨g, o + 4, none⟩ = some bv ∧
    w.cell? ⟨g, o + 5, none⟩ = some av ∧ w.cell? ⟨g, o + 6, none⟩ = some (.int .i64 r.back) ∧ w.cell? ⟨g, o + 7, none⟩ = some (.int .i64 r.next) ∧ w.cell? ⟨g, o + 8, none⟩ = some (.string r.text) ∧ w.cell? ⟨g, o + 9, none⟩ = some uv :=
  ⟨h 0 (by omega), h 1 (by omega), h 2 (by omega), h 3 (by omega), h 4 (by omega), h 5 (by omega), h 6 (by omega), h 7 (by omega), h 8 (by omega), h 9 (by omega)⟩
/-- A record that comes back beside an error. -/
def RecBackE (r : Rec) (er : Int) (w : World) (e : Ending) (w' : World) : Prop := ∃ bv av uv, e = .returned (.tuple #[.agg (recCells r bv av uv), .int .i64 er]) ∧ RecIn w' r bv av uv ∧ New w w'

set_option maxRecDepth 100000 in
set_option maxHeartbeats 4000000 in
theorem record_in (tb : Nat) (ot : Option Nat) (b : Nat) (T : ATape) (i : Nat) (w : World) (hT : TapeAt w tb ot b T) (hi : i < T.recs.length) (hv : ∀ r ∈ T.recs, validB r = true) (hl : T.recs.length ≤ 1000000) :
    Calls Try.prog 47 #[.pointer (some ⟨tb, 0, none⟩), .int .i64 ((i : Int) + 1)] w (RecBackE T.recs[i] 0 w) := by
  obtain ⟨v, te, tv, xs, tw, tr⟩ := hT
  obtain ⟨g, cap, rfl, -, -⟩ := tw.form (by omega)
  obtain ⟨bv, av, uv, hin, hcl⟩ := rec_row tw tr rfl hi
  obtain ⟨r, hr⟩ : ∃ r, r = T.recs[i] := ⟨_, rfl⟩
  have hvr : validB r = true := by rw [hr]; exact hv _ (List.getElem_mem hi)
  rw [← hr] at hin hcl ⊢
  have SM := hid (small_of_valid hvr)
  obtain ⟨⟨⟨p5, k5, rfl, -⟩, -⟩, ⟨⟨p6, k6, rfl, -⟩, -⟩, ⟨⟨p7, k7, rfl, -⟩, -⟩⟩ := id hin
  have HIN := hid hin
  have HN0 := hid ((New.refl w).alloc #[.int .i64 0, .int .i64 0, .int .i64 0, .int .i64 0, .slice none 0 0, .slice none 0 0, .int .i64 0, .int .i64 0, .string ⟨#[]⟩, .slice none 0 0] 25)
  have lt1 : tb < w.heap.size := (Array.getElem?_eq_some_iff.1 te).1
  have lt2 : g < w.heap.size := (tw.lt g rfl).2
  have hc := cells_of te
  have hf := frozen_of te
  obtain ⟨d0, d1, d2, d3, d4, d5, d6, d7, d8, d9⟩ := rec_ten hcl
  clear hcl hin hvr hr hv te tv tw tr
  go_enter Try.func47, Try.ntmps47
  go_wp2_with fail
  refine (tnone_no tb b _ (by rw [HN0.out.cell tb 0 lt1]; exact hc 0)).mono ?_
  rintro e w' ⟨rfl, rfl⟩
  have q1 : decide ((i : Int) + 1 < 1) = false := by simp; omega
  have q2 : decide ((T.recs.length : Int) < (i : Int) + 1) = false := by simp; omega
  go_wp2_with fail
  refine (copied_any r _ _ _ _ (HIN.out.new HN0.out).at (by have := SM.out; omega) (by have := SM.out; omega) (by have := SM.out; omega)).mono ?_
  rintro e w1 ⟨bv1, av1, uv1, rfl, hin1, n1⟩
  obtain ⟨⟨⟨p8, k8, rfl, -⟩, -⟩, ⟨⟨p9, k9, rfl, -⟩, -⟩, ⟨⟨p10, k10, rfl, -⟩, -⟩⟩ := id hin1
  have IN1 := hid hin1
  have X1 : w1.heap[w.heap.size]? = some (.cells #[.int .i64 0, .int .i64 0, .int .i64 0, .int .i64 0, .slice none 0 0, .slice none 0 0, .int .i64 0, .int .i64 0, .string ⟨#[]⟩, .slice none 0 0] 25 (0, 0)) := by rw [Below.block n1 _ (by simp)]; exact heap_alloc_new w _
  have m1 := cells_of X1
  have f1 := frozen_of X1
  have HX := hid X1
  have HN1 := hid (HN0.out.trans n1)
  clear hin1 n1 X1 d0 d1 d2 d3 d4 d5 d6 d7 d8 d9 hc hf
  go_wp2
  have hs := set10 HX.out (.int .i64 r.kind) (.int .i64 r.unit) (.int .i64 r.page) (.int .i64 r.at_) (.slice p8 r.before.size k8) (.slice p9 r.after.size k9) (.int .i64 r.back) (.int .i64 r.next) (.string r.text) (.slice p10 r.units.length k10)
  (try simp only [Exit.inBlock, Exit.then])
  refine bodyPost_ret (cell_tmp_res rfl _ _ w.heap.size 25 _ (0, 0) rfl hs.1 rfl) rfl ?_
  have h5 : Apart (fun k => k = w.heap.size) w1 := apart_of HX.out (by decide)
  have h90 : Apart90 (fun k => k = w.heap.size) w1 := fun k c fr hk hh => by subst hk; exact type_ne HX.out hh (by decide) rfl
  exact ⟨_, _, _, rfl, IN1.out.turn hs.2 h5 h90, Below.trans HN1.out (hs.2.below (fun k e => by omega) HN1.out.size)⟩

end Go.Proofs.Ytbclgklpcbajfaa

namespace Go.Proofs.Ytbclgklpcbajfaa
open Go.RowKit
set_option linter.unusedSimpArgs false
set_option linter.unusedVariables false

set_option maxRecDepth 100000 in
set_option maxHeartbeats 4000000 in
theorem record_out (tb : Nat) (ot : Option Nat) (b : Nat) (T : ATape) (n : Int) (w : World) (hT : TapeAt w tb ot b T) (hn : n < 1 ∨ (T.recs.length : Int) < n) :
    Calls Try.prog 47 #[.pointer (some ⟨tb, 0, none⟩), .int .i64 n] w (RecBackE rec0 5 w) := by
  obtain ⟨tp, tc, hc, hf⟩ := tape_cells (hT.new ((New.refl w).alloc #[.int .i64 0, .int .i64 0, .int .i64 0, .int .i64 0, .slice none 0 0, .slice none 0 0, .int .i64 0, .int .i64 0, .string ⟨#[]⟩, .slice none 0 0] 25))
  clear hT
  by_cases h1 : n < 1
  · have q1 : decide (n < 1) = true := by simpa using h1
    clear hn
    go_enter Try.func47, Try.ntmps47
    go_wp2_with fail
    refine (tnone_no tb b _ (hc 0)).mono ?_
    rintro e w' ⟨rfl, rfl⟩
    go_wp2
    (try simp only [Exit.inBlock, Exit.then])
    refine bodyPost_ret (cell_tmp_res rfl _ _ w.heap.size 25 (recCells rec0 (.slice none 0 0) (.slice none 0 0) (.slice none 0 0)) (0, 0) rfl (heap_alloc_new w _) rfl) rfl ?_
    exact ⟨_, _, _, rfl, ⟨Content.nil _, Content.nil _, OpensIn.nil _⟩, (New.refl w).alloc _ _⟩
  · have h2 : (T.recs.length : Int) < n := by omega
    have q1 : decide (n < 1) = false := by simpa using h1
    have q2 : decide ((T.recs.length : Int) < n) = true := by simpa using h2
    clear hn
    go_enter Try.func47, Try.ntmps47
    go_wp2_with fail
    refine (tnone_no tb b _ (hc 0)).mono ?_
    rintro e w' ⟨rfl, rfl⟩
    go_wp2
    (try simp only [Exit.inBlock, Exit.then])
    refine bodyPost_ret (cell_tmp_res rfl _ _ w.heap.size 25 (recCells rec0 (.slice none 0 0) (.slice none 0 0) (.slice none 0 0)) (0, 0) rfl (heap_alloc_new w _) rfl) rfl ?_
    exact ⟨_, _, _, rfl, ⟨Content.nil _, Content.nil _, OpensIn.nil _⟩, (New.refl w).alloc _ _⟩

/-- Records that come back in new memory. -/
def RecsBack (l : List Rec) (w : World) (e : Ending) (w' : World) : Prop := ∃ v xs, e = .returned v ∧ w'.ownsRow w.heap.size 25 10 v l.length xs ∧ RecCells (RecIn w') l xs ∧ New w w'
/-- The row while it grows. -/
structure Rows (w wr : World) (v : Value) (l : List Rec) : Prop where
  row : ∃ xs, wr.ownsRow w.heap.size 25 10 v l.length xs ∧ RecCells (RecIn wr) l xs
  new : New w wr
theorem Rows.grow {w wr w1 w2 : World} {v v' : Value} {l : List Rec} {xs : List Value} (hown : wr.ownsRow w.heap.size 25 10 v l.length xs) (hc : RecCells (RecIn wr) l xs) (hw : New w wr) (hn : New wr w1) {r : Rec} {bv av uv : Value} (hr : RecIn w1 r bv av uv)
    (hown2 : w2.ownsRow w.heap.size 25 10 v' (l.length + 1) (xs ++ (recCells r bv av uv).toList)) (hg : w1.grownBy w2 v.ownBlock) : Rows w w2 v' (l ++ [r]) := by
  have hown1 := own_old hown hn
  have ht : Turn (fun k => v.ownBlock = some k) w1 w2 := Turn.grown (Turn.refl _ w1) hg (fun k _ e => e)
  have a5 := apart_own hown1 (show (25 : TypeId) ≠ 5 by decide)
  have a90 : Apart90 (fun k => v.ownBlock = some k) w1 := fun k c fr hk hh => own_ne hown1 hh (by decide) hk
  refine ⟨⟨_, by rw [List.length_append]; exact hown2, ((hc.imp fun r' _ _ _ h => (h.new hn)).snoc hr).imp fun r' _ _ _ h => h.turn ht a5 a90⟩, ?_⟩
  exact Below.trans (hw.trans hn) (ht.below (fun k e => own_from hown1 k e) (hw.trans hn).size)

set_option maxRecDepth 100000 in
set_option maxHeartbeats 4000000 in
theorem records_any (tb : Nat) (ot : Option Nat) (b : Nat) (T : ATape) (w : World) (hT : TapeAt w tb ot b T) (hv : ∀ r ∈ T.recs, validB r = true) (hl : T.recs.length ≤ 100000) :
    Calls Try.prog 49 #[.pointer (some ⟨tb, 0, none⟩)] w (RecsBack T.recs w) := by
  have HT := hid hT
  obtain ⟨tp, tc, hc, hf⟩ := tape_cells hT
  obtain ⟨v, te, tv, xs, tw, tr⟩ := hT
  obtain ⟨A, c, rfl⟩ := own_len tw
  have e0 := hc 1
  rw [cells_of te 1] at e0
  have e0 : Value.slice A T.recs.length c = Value.slice tp T.recs.length tc := by simpa using e0
  injection e0 with e1 e2 e3
  subst e1 e3
  have TW := hid tw
  have TR := hid tr
  have HV := hid hv
  have HL := hid hl
  clear te tv tw tr hv
  go_enter Try.func49, Try.ntmps49
  go_wp2_with fail
  refine (tnone_no tb b _ (hc 0)).mono ?_
  rintro e w' ⟨rfl, rfl⟩
  go_wp2
  clear hc hf
  go_loopw [3, 5, 14] (fun v _ i wr => ∃ k : Nat, k ≤ T.recs.length ∧ i = .int .i64 k ∧ Hid (Rows w wr v (T.recs.take k))) (fun _ _ i _ => T.recs.length - (intOf i).toNat)
  case atStart => exact ⟨0, Nat.zero_le _, rfl, hid ⟨⟨[], by simpa using World.ownsRow_nil w _ 25 10, by simpa using RecCells.nil _⟩, New.refl w⟩⟩
  case round =>
    obtain ⟨k, hk, rfl, hyp⟩ := hrel
    by_cases hlt : k < T.recs.length
    · obtain ⟨g, cap, hg, -, -⟩ := TW.out.form (by omega)
      injection hg with hg1 _ hg2
      subst hg1 hg2
      obtain ⟨bv, av, uv, hin, hcl⟩ := rec_row TW.out TR.out rfl hlt
      have hge : T.recs[k] ∈ T.recs := List.getElem_mem hlt
      have SM := hid (small_of_valid (HV.out _ hge))
      have TK : Hid (T.recs.take (k + 1) = T.recs.take k ++ [T.recs[k]]) := hid (List.take_append_getElem hlt).symm
      have LK : Hid ((T.recs.take k).length = k) := hid (by rw [List.length_take]; omega)
      obtain ⟨r, hr⟩ : ∃ r, r = T.recs[k] := ⟨_, rfl⟩
      rw [← hr] at hin hcl SM TK
      clear hr hge
      obtain ⟨⟨⟨p5, k5, rfl, -⟩, -⟩, ⟨⟨p6, k6, rfl, -⟩, -⟩, ⟨⟨p7, k7, rfl, -⟩, -⟩⟩ := id hin
      have lt2 : g < w.heap.size := (TW.out.lt g rfl).2
      have hnw := hyp.out.new
      have HIN := hid (hin.new hnw)
      obtain ⟨d0, d1, d2, d3, d4, d5, d6, d7, d8, d9⟩ := rec_ten hcl
      rw [← hnw.cell _ _ lt2] at d0 d1 d2 d3 d4 d5 d6 d7 d8 d9
      have lt3 : g < wr.heap.size := Nat.lt_of_lt_of_le lt2 hnw.size
      obtain ⟨ys, ho, hc⟩ := hyp.out.row
      have HO := hid ho
      have HC := hid hc
      have HW := hid hyp.out.new
      rw [LK.out] at ho
      obtain ⟨A2, c2, rfl⟩ := own_len ho
      have HO2 := hid ho
      clear hcl hin ho hc hyp hnw
      go_wp2_with fail
      refine (copied_any r _ _ _ _ (HIN.out.new ((New.refl wr).alloc _ _)).at (by have := SM.out; omega) (by have := SM.out; omega) (by have := SM.out; omega)).mono ?_
      rintro e w1 ⟨bv1, av1, uv1, rfl, hin1, n1⟩
      obtain ⟨⟨⟨p8, k8, rfl, -⟩, -⟩, ⟨⟨p9, k9, rfl, -⟩, -⟩, ⟨⟨p10, k10, rfl, -⟩, -⟩⟩ := id hin1
      have IN1 := hid (hin1.new ((New.refl w1).alloc #[.int .i64 r.kind, .int .i64 r.unit, .int .i64 r.page, .int .i64 r.at_, .slice p8 r.before.size k8, .slice p9 r.after.size k9, .int .i64 r.back, .int .i64 r.next, .string r.text, .slice p10 r.units.length k10] 25))
      have N1 := hid (((New.refl wr).alloc _ _).trans n1 |>.alloc #[.int .i64 r.kind, .int .i64 r.unit, .int .i64 r.page, .int .i64 r.at_, .slice p8 r.before.size k8, .slice p9 r.after.size k9, .int .i64 r.back, .int .i64 r.next, .string r.text, .slice p10 r.units.length k10] 25)
      clear d0 d1 d2 d3 d4 d5 d6 d7 d8 d9 hin1 n1
      go_wp2_with (at_builtin; with_reducible refine app_rec rfl _ _ rfl (.slice A2 k c2) k ys rfl w.heap.size (own_old HO2.out N1.out) (Nat.le_trans HW.out.size N1.out.size) w1.heap.size r p8 p9 p10 _ k8 _ k9 _ k10 rfl (cells_of (heap_alloc_new w1 _)) (by have := HL.out; omega) ?_)
      intro v' w' hown hg _
      have hgrow := Rows.grow (w := w) HO.out HC.out HW.out N1.out IN1.out (by rw [LK.out]; exact hown) hg
      rw [← TK.out] at hgrow
      obtain ⟨A', c', rfl⟩ := own_len hown
      have HG := hid hgrow
      clear hown hg hgrow
      go_wp2
      go_roundw
      case rel => exact ⟨k + 1, by omega, by go_num, HG⟩
      case measure => simp [intOf]; omega
    · obtain rfl : k = T.recs.length := by omega
      rw [List.take_length] at hyp
      have HY := hid hyp
      clear hyp
      go_wp2
      go_ret
      obtain ⟨ys, ho, hc⟩ := HY.out.out.row
      exact ⟨_, ys, rfl, ho, hc, HY.out.out.new⟩

end Go.Proofs.Ytbclgklpcbajfaa

namespace Go.Proofs.Ytbclgklpcbajfaa
open Go.RowKit
set_option linter.unusedSimpArgs false
set_option linter.unusedVariables false

/-- A list of records that lies in memory. -/
def Recs (w : World) (v : Value) (l : List Rec) : Prop :=
  ∃ p c, v = .slice p l.length c ∧ l.length ≤ c ∧ c ≤ maxLen ∧ (0 < l.length → ∃ b o, p = some ⟨b, o, none⟩ ∧ b < w.heap.size ∧ ∀ i (h : i < l.length), ∃ bv av uv, RecAt w l[i] bv av uv ∧ ∀ j, j < 10 → w.cell? ⟨b, o + i * 10 + j, none⟩ = (recCells l[i] bv av uv)[j]?)
theorem Recs.new {w w' : World} {v : Value} {l : List Rec} (h : Recs w v l) (hn : New w w') : Recs w' v l := by
  obtain ⟨p, c, e, h1, h2, h3⟩ := h
  refine ⟨p, c, e, h1, h2, fun h0 => ?_⟩
  obtain ⟨b, o, e2, hb, hx⟩ := h3 h0
  refine ⟨b, o, e2, Nat.lt_of_lt_of_le hb hn.size, fun i hi => ?_⟩
  obtain ⟨bv, av, uv, hr, hc⟩ := hx i hi
  exact ⟨bv, av, uv, hr.new hn, fun j hj => by rw [hn.cell _ _ hb]; exact hc j hj⟩
theorem Recs.row {w : World} {base : Nat} {v : Value} {l : List Rec} {xs : List Value} (h : w.ownsRow base 25 10 v l.length xs) (hc : RecCells (RecAt w) l xs) : Recs w v l := by
  obtain ⟨p, c, rfl, h1, h2, _⟩ := RowAt.owned h
  refine ⟨p, c, rfl, h1, h2, fun h0 => ?_⟩
  obtain ⟨g, cap, e, -, hg⟩ := h.form h0
  injection e with e1 _ e3
  subst e1 e3
  refine ⟨g, 0, rfl, hg, fun i hi => ?_⟩
  obtain ⟨bv, av, uv, hr, hj⟩ := rec_row h hc rfl hi
  exact ⟨bv, av, uv, hr, fun j hj' => by rw [Nat.zero_add]; exact hj j hj'⟩
theorem Recs.owned {w : World} {base : Nat} {v : Value} {l : List Rec} {xs : List Value} (h : w.ownsRow base 25 10 v l.length xs) (hc : RecCells (RecIn w) l xs) : Recs w v l := Recs.row h (hc.imp fun r _ _ _ hr => hr.at)
theorem Recs.form {w : World} {v : Value} {l : List Rec} (h : Recs w v l) : ∃ p c, v = .slice p l.length c ∧ l.length ≤ c ∧ c ≤ maxLen := by
  obtain ⟨p, c, e, h1, h2, _⟩ := h
  exact ⟨p, c, e, h1, h2⟩
/-- A record of it. -/
theorem Recs.get {w : World} {p : Option Addr} {n c : Nat} {l : List Rec} (h : Recs w (.slice p n c) l) {k : Nat} (hk : k < l.length) :
    ∃ b o p1 c1 p2 c2 p3 c3, p = some ⟨b, o, none⟩ ∧ b < w.heap.size ∧ RecAt w l[k] (.slice p1 l[k].before.size c1) (.slice p2 l[k].after.size c2) (.slice p3 l[k].units.length c3) ∧
      ∀ j, j < 10 → w.cell? ⟨b, o + k * 10 + j, none⟩ = (recCells l[k] (.slice p1 l[k].before.size c1) (.slice p2 l[k].after.size c2) (.slice p3 l[k].units.length c3))[j]? := by
  obtain ⟨p', c', e, h1, h2, h3⟩ := h
  injection e with e1 e2 e3
  subst e1
  obtain ⟨b, o, rfl, hb, hx⟩ := h3 (by omega)
  obtain ⟨bv, av, uv, hr, hj⟩ := hx k hk
  obtain ⟨⟨p1, c1, rfl, -⟩, ⟨p2, c2, rfl, -⟩, ⟨p3, c3, rfl, -⟩⟩ := id hr
  exact ⟨b, o, p1, c1, p2, c2, p3, c3, rfl, hb, hr, hj⟩
theorem refSame_is (B : Bool) (r s : Rec) (b1 a1 u1 b2 a2 u2 : Value) (w : World) (hB : decide (r = s) = B) (h1 : RecAt w r b1 a1 u1) (h2 : RecAt w s b2 a2 u2) :
    Calls Try.prog 18 #[.agg (recCells r b1 a1 u1), .agg (recCells s b2 a2 u2)] w fun e w' => e = .returned (.bool B) ∧ New w w' := by
  subst hB; exact refSameRecord_any r s b1 a1 u1 b2 a2 u2 w h1 h2
set_option maxRecDepth 100000 in
set_option maxHeartbeats 8000000 in
theorem sameRecords_any (u v : Value) (l m : List Rec) (w : World) (h1 : Recs w u l) (h2 : Recs w v m) : Calls Try.prog 53 #[u, v] w fun e w' => e = .returned (.bool (decide (l = m))) ∧ New w w' := by
  obtain ⟨p, c, rfl, g1, g2⟩ := h1.form
  obtain ⟨q, d, rfl, g3, g4⟩ := h2.form
  unfold maxLen at g2 g4
  have H1 := hid h1
  have H2 := hid h2
  clear h1 h2
  by_cases hlen : l.length = m.length
  · have HL := hid hlen
    have q1 : ((l.length : Int) == (m.length : Int)) = true := by simp; omega
    have q2 : ((l.length : Int) != (m.length : Int)) = false := by simp; omega
    clear hlen
    go_enter Try.func53, Try.ntmps53
    go_wp2
    clear q1 q2
    go_loopw [5] (fun i wr => ∃ k : Nat, k ≤ l.length ∧ i = .int .i64 k ∧ Hid (l.take k = m.take k ∧ New w wr)) (fun i _ => l.length - (intOf i).toNat)
    case atStart => exact ⟨0, Nat.zero_le _, rfl, hid ⟨rfl, New.refl w⟩⟩
    case round =>
      obtain ⟨k, hk, rfl, hyp⟩ := hrel
      by_cases hlt : k < l.length
      · have hlt2 : k < m.length := by have := HL.out; omega
        obtain ⟨b1, o1, p1, c1, p2, c2, p3, c3, rfl, hb1, hr1, hc1⟩ := H1.out.get hlt
        obtain ⟨b2, o2, p4, c4, p5, c5, p6, c6, rfl, hb2, hr2, hc2⟩ := H2.out.get hlt2
        have HTL := hid (show l.take (k + 1) = l.take k ++ [l[k]] from (List.take_append_getElem hlt).symm)
        have HTM := hid (show m.take (k + 1) = m.take k ++ [m[k]] from (List.take_append_getElem hlt2).symm)
        have HNE : Hid (l[k] ≠ m[k] → l ≠ m) := hid (fun h e => h (by subst e; rfl))
        obtain ⟨r, er⟩ : ∃ r, r = l[k] := ⟨_, rfl⟩
        obtain ⟨s, es⟩ : ∃ s, s = m[k] := ⟨_, rfl⟩
        rw [← er] at hr1 hc1 HTL HNE
        rw [← es] at hr2 hc2 HTM HNE
        clear er es
        obtain ⟨x0, x1, x2, x3, x4, x5, x6, x7, x8, x9⟩ := rec_ten hc1
        obtain ⟨y0, y1, y2, y3, y4, y5, y6, y7, y8, y9⟩ := rec_ten hc2
        have hn := hyp.out.2
        have HN := hid hn
        have HR1 := hid hr1
        have HR2 := hid hr2
        have X : ∀ (p : After wr) a b, b < w.heap.size → p.w.cell? ⟨b, a, none⟩ = w.cell? ⟨b, a, none⟩ := fun p a b hb => (hn.trans p.new).cell b a hb
        have x0' := fun (p : After wr) => (X p _ _ hb1).trans x0
        have x1' := fun (p : After wr) => (X p _ _ hb1).trans x1
        have x2' := fun (p : After wr) => (X p _ _ hb1).trans x2
        have x3' := fun (p : After wr) => (X p _ _ hb1).trans x3
        have x4' := fun (p : After wr) => (X p _ _ hb1).trans x4
        have x5' := fun (p : After wr) => (X p _ _ hb1).trans x5
        have x6' := fun (p : After wr) => (X p _ _ hb1).trans x6
        have x7' := fun (p : After wr) => (X p _ _ hb1).trans x7
        have x8' := fun (p : After wr) => (X p _ _ hb1).trans x8
        have x9' := fun (p : After wr) => (X p _ _ hb1).trans x9
        have y0' := fun (p : After wr) => (X p _ _ hb2).trans y0
        have y1' := fun (p : After wr) => (X p _ _ hb2).trans y1
        have y2' := fun (p : After wr) => (X p _ _ hb2).trans y2
        have y3' := fun (p : After wr) => (X p _ _ hb2).trans y3
        have y4' := fun (p : After wr) => (X p _ _ hb2).trans y4
        have y5' := fun (p : After wr) => (X p _ _ hb2).trans y5
        have y6' := fun (p : After wr) => (X p _ _ hb2).trans y6
        have y7' := fun (p : After wr) => (X p _ _ hb2).trans y7
        have y8' := fun (p : After wr) => (X p _ _ hb2).trans y8
        have y9' := fun (p : After wr) => (X p _ _ hb2).trans y9
        clear X hc1 hc2 x0 x1 x2 x3 x4 x5 x6 x7 x8 x9 y0 y1 y2 y3 y4 y5 y6 y7 y8 y9 hr1 hr2 hn
        have hs : decide (k < m.length) = true := by simpa using hlt2
        by_cases hrs : r = s
        · have HD : Hid (decide (r = s) = true) := hid (by simpa using hrs)
          have HRS := hid hrs
          clear hrs
          go_wp2_with fail
          refine wp_region_new (by kernel_rfl) (by kernel_rfl) ?_
          repeat (go_big_quiet_step (with_reducible refine calls_after (refSame_is true r s _ _ _ _ _ _ _ HD.out (HR1.out.new (HN.out.trans (After.new _))) (HR2.out.new (HN.out.trans (After.new _))))))
          refine wpQuiet_nil ?_
          rintro _ ⟨P, rfl⟩
          clear x0' x1' x2' x3' x4' x5' x6' x7' x8' x9' y0' y1' y2' y3' y4' y5' y6' y7' y8' y9'
          have HP := hid (HN.out.trans P.new)
          go_wp2
          go_roundw
          case rel => exact ⟨k + 1, by omega, by go_num, hid ⟨by rw [HTL.out, HTM.out, hyp.out.1, HRS.out], HP.out⟩⟩
          case measure => simp [intOf]; omega
        · have HD : Hid (decide (r = s) = false) := hid (by simpa using hrs)
          have HRS := hid hrs
          clear hrs
          go_wp2_with fail
          refine wp_region_new (by kernel_rfl) (by kernel_rfl) ?_
          repeat (go_big_quiet_step (with_reducible refine calls_after (refSame_is false r s _ _ _ _ _ _ _ HD.out (HR1.out.new (HN.out.trans (After.new _))) (HR2.out.new (HN.out.trans (After.new _))))))
          refine wpQuiet_nil ?_
          rintro _ ⟨P, rfl⟩
          clear x0' x1' x2' x3' x4' x5' x6' x7' x8' x9' y0' y1' y2' y3' y4' y5' y6' y7' y8' y9'
          have HP := hid (HN.out.trans P.new)
          go_wp2
          go_ret
          exact ⟨by rw [decide_eq_false (HNE.out HRS.out)]; rfl, HP.out⟩
      · obtain rfl : k = l.length := by omega
        have HY := hid hyp
        clear hyp
        go_wp2
        go_ret
        have e := HY.out.out.1
        rw [List.take_length, List.take_of_length_le (by have := HL.out; omega)] at e
        exact ⟨by rw [decide_eq_true e]; rfl, HY.out.out.2⟩
  · have q1 : ((l.length : Int) == (m.length : Int)) = false := by simp; omega
    have q2 : ((l.length : Int) != (m.length : Int)) = true := by simp; omega
    have q3 : (l.length == m.length) = false := by simpa using hlen
    have q4 : (l.length != m.length) = true := by simpa using hlen
    have HL := hid hlen
    clear hlen
    go_enter Try.func53, Try.ntmps53
    go_wp2
    go_ret
    exact ⟨by rw [decide_eq_false (fun e => HL.out (by rw [e]))]; rfl, New.refl w⟩

end Go.Proofs.Ytbclgklpcbajfaa
