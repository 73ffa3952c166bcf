/- tape.Tape.Force, Record and Records. tape.Tape.Records, Record where there is none, and progenyref03.SameRecords. progenyref03.SameRecords over every two lists of records. -/
import Derived.Test.YtdccbceaajnajaaU2
import Derived.Test.YtdccbceaajnajaaA5
import Derived.Test.YtdccbceaajnajaaA13
namespace Go.Proofs.Ytdccbceaajnajaa
open Go.RowKit
set_option linter.unusedSimpArgs false
set_option linter.unusedVariables false

theorem TapeAt.marked {w : World} {tb b : Nat} {ot : Option Nat} {T : ATape} (h : TapeAt w tb ot b T) (n : Nat) :
    TapeAt ((w.setCell ⟨tb, 3, none⟩ (.bool false)).setCell ⟨tb, 2, none⟩ (.int .i64 (n : Int))) tb ot b { T with forced := n, late := false } ∧ Turn (· = tb) w ((w.setCell ⟨tb, 3, none⟩ (.bool false)).setCell ⟨tb, 2, none⟩ (.int .i64 (n : Int))) := by
  obtain ⟨v, e1, e2, xs, e3, e4⟩ := h
  have s1 := turn_set w tb 3 (.bool false)
  have s2 := s1.trans (turn_set _ tb 2 (.int .i64 (n : Int)))
  have b5 : Apart (· = tb) w := apart_of e1 (by decide)
  have b90 : Apart90 (· = tb) w := fun k c fr hk hh => by subst hk; exact type_ne e1 hh (by decide) rfl
  exact ⟨⟨v, heap_setCell_same _ tb 2 _ 66 _ (heap_setCell_same w tb 3 _ 66 _ e1), e2, xs, own_turn e3 s2 (fun k hk e => own_ne e3 e1 (by decide) (e ▸ hk)), e4.imp fun r _ _ _ hr => hr.turn s2 b5 b90⟩, s2⟩
theorem Log.marked {w0 w : World} {b tb : Nat} {ow ot : Option Nat} {A : ADisk} {T : ATape} (h : Log w0 w b ow tb ot A T) (n : Nat) :
    Log w0 ((w.setCell ⟨tb, 3, none⟩ (.bool false)).setCell ⟨tb, 2, none⟩ (.int .i64 (n : Int))) b ow tb ot A { T with forced := n, late := false } ∧ Turn (· = tb) w ((w.setCell ⟨tb, 3, none⟩ (.bool false)).setCell ⟨tb, 2, none⟩ (.int .i64 (n : Int))) := by
  obtain ⟨h1, h2⟩ := h.tape.marked n
  obtain ⟨v, e1, _⟩ := h.tape
  exact ⟨{ h with disk := disk_keep h.disk h2 (fun k hk => by subst hk; exact ⟨_, _, _, e1, by decide, by decide, by decide⟩), tape := h1, new := Below.trans h.new (h2.below (fun k e => e ▸ h.tt) h.new.size) }, h2⟩

def forceE (A : ADisk) (T : ATape) : Int := if T.late then actE A else 0
def forceA (A : ADisk) (T : ATape) : ADisk := if T.late then flushA A else A
def forceT (A : ADisk) (T : ATape) : ATape := if forceE A T = 0 then { T with forced := T.recs.length, late := false } else T
/-- What Force leaves. -/
def Forced (w0 : World) (b : Nat) (ow : Option Nat) (tb : Nat) (ot : Option Nat) (A : ADisk) (T : ATape) (w : World) (e : Ending) (w' : World) : Prop :=
  ∃ ow', e = .returned (.int .i64 (forceE A T)) ∧ Log w0 w' b ow' tb ot (forceA A T) (forceT A T) ∧ Turn (logs b ow tb ot) w w' ∧ (∀ k, ow' = some k → ow = some k ∨ w.heap.size ≤ k)

set_option maxRecDepth 100000 in
set_option maxHeartbeats 4000000 in
theorem force_any (w0 : World) (b : Nat) (ow : Option Nat) (tb : Nat) (ot : Option Nat) (A : ADisk) (T : ATape) (w : World) (hL : Log w0 w b ow tb ot A T) (hb1 : A.falls ≤ 1000000000) (hb2 : A.acts ≤ 1000000000) (hb3 : A.waits.length ≤ 1000000000) :
    Calls Try.prog 63 #[.pointer (some ⟨tb, 0, none⟩)] w (Forced w0 b ow tb ot A T w) := by
  obtain ⟨tp, tc, hc, hf⟩ := tape_cells hL.tape
  have LL := hid hL
  have B1 := hid hb1
  have B2 := hid hb2
  have B3 := hid hb3
  clear hL hb1 hb2 hb3
  cases hl : T.late with
  | false =>
    rw [hl] at hc
    have HL := hid hl
    clear hl
    go_enter Try.func63, Try.ntmps63
    go_wp2_with fail
    refine (tnone_no tb b _ (hc 0)).mono ?_
    rintro e w' ⟨rfl, rfl⟩
    go_wp2
    go_ret
    have hm := LL.out.marked T.recs.length
    have e1 : forceE A T = 0 := by simp [forceE, HL.out]
    refine ⟨ow, (by rw [e1]; rfl), ?_, hm.2.mono (fun k _ e => Or.inr (Or.inl e)), fun k h => .inl h⟩
    rw [show forceA A T = A by simp [forceA, HL.out], show forceT A T = { T with forced := T.recs.length, late := false } by simp only [forceT, if_pos e1]]
    exact hm.1
  | true =>
    rw [hl] at hc
    have HL := hid hl
    clear hl
    go_enter Try.func63, Try.ntmps63
    go_wp2_with fail
    refine (tnone_no tb b _ (hc 0)).mono ?_
    rintro e w' ⟨rfl, rfl⟩
    go_wp2_with fail
    refine (flush_any b ow A _ LL.out.disk B1.out B2.out B3.out).mono ?_
    rintro e w1 hm
    obtain ⟨ow', rfl, hl3, ht3, how⟩ := LL.out.moved hm
    have L1 := hid hl3
    have T1 := hid ht3
    have OW := hid how
    clear hm hl3 ht3 how hc hf
    have eE : forceE A T = actE A := by simp [forceE, HL.out]
    have eA : forceA A T = flushA A := by simp [forceA, HL.out]
    have EE := hid eE
    have EA := hid eA
    clear eE eA
    by_cases ha : actE A = 0
    · obtain ⟨tp, tc, hc, hf⟩ := tape_cells L1.out.tape
      rw [ha]
      have HA := hid ha
      clear ha
      go_wp2
      go_ret
      have hm := L1.out.marked T.recs.length
      refine ⟨ow', (by rw [EE.out, HA.out]; rfl), ?_, (T1.out.mono (fun k _ e => Or.inl e)).trans (hm.2.mono (fun k _ e => Or.inr (Or.inl e))), OW.out⟩
      rw [EA.out, show forceT A T = { T with forced := T.recs.length, late := false } by simp only [forceT, if_pos (EE.out.trans HA.out)]]
      exact hm.1
    · have q1 : (actE A == 0) = false := by simpa using ha
      have q2 : (actE A != 0) = true := by simpa using ha
      have HA := hid ha
      clear ha
      go_wp2
      go_ret
      have q3 : ¬ forceE A T = 0 := by rw [EE.out]; exact HA.out
      refine ⟨ow', (by rw [EE.out]; rfl), ?_, T1.out.mono (fun k _ e => Or.inl e), OW.out⟩
      rw [EA.out, show forceT A T = T by simp only [forceT, if_neg q3]]
      exact L1.out

/-- A record of a row of one's own. -/
theorem rec_row {w : World} {base g cap n : Nat} {xs : List Value} {l : List Rec} {P : Rec → Value → Value → Value → Prop} (hown : w.ownsRow base 69 10 (.slice (some ⟨g, 0, none⟩) n cap) n xs) (hc : RecCells P l xs) (hn : n = l.length) {i : Nat} (hi : i < l.length) :
    ∃ bv av uv, P l[i] bv av uv ∧ ∀ j, j < 10 → w.cell? ⟨g, i * 10 + j, none⟩ = (recCells l[i] bv av uv)[j]? := by
  obtain ⟨bv, av, uv, h1, h2⟩ := hc.2 i hi
  exact ⟨bv, av, uv, h1, fun j hj => by rw [hown.cellAt (i * 10 + j) (by omega)]; exact h2 j hj⟩
theorem rec_ten {w : World} {g o : Nat} {r : Rec} {bv av uv : Value} (h : ∀ j, j < 10 → w.cell? ⟨g, o + j, none⟩ = (recCells r bv av uv)[j]?) :
    w.cell? ⟨g, o, none⟩ = some (.int .i64 r.kind) ∧ w.cell? ⟨g, o + 1, none⟩ = some (.int .i64 r.unit) ∧ w.cell? ⟨g, o + 2, none⟩ = some (.int .i64 r.page) ∧ w.cell? ⟨g, o + 3, none⟩ = some (.int .i64 r.at_) ∧ w.cell? ⟨g, o + 4, none⟩ = some bv ∧
    w.cell? ⟨g, o + 5, none⟩ = some av ∧ w.cell? ⟨g, o + 6, none⟩ = some (.int .i64 r.back) ∧ w.cell? ⟨g, o + 7, none⟩ = some (.int .i64 r.next) ∧ w.cell? ⟨g, o + 8, none⟩ = some (.string r.text) ∧ w.cell? ⟨g, o + 9, none⟩ = some uv :=
  ⟨h 0 (by omega), h 1 (by omega), h 2 (by omega), h 3 (by omega), h 4 (by omega), h 5 (by omega), h 6 (by omega), h 7 (by omega), h 8 (by omega), h 9 (by omega)⟩
/-- A record that comes back beside an error. -/
def RecBackE (r : Rec) (er : Int) (w : World) (e : Ending) (w' : World) : Prop := ∃ bv av uv, e = .returned (.tuple #[.agg (recCells r bv av uv), .int .i64 er]) ∧ RecIn w' r bv av uv ∧ New w w'

end Go.Proofs.Ytdccbceaajnajaa

namespace Go.Proofs.Ytdccbceaajnajaa
open Go.RowKit
set_option linter.unusedSimpArgs false
set_option linter.unusedVariables false

/-- Records that come back in new memory. -/
def RecsBack (l : List Rec) (w : World) (e : Ending) (w' : World) : Prop := ∃ v xs, e = .returned v ∧ w'.ownsRow w.heap.size 69 10 v l.length xs ∧ RecCells (RecIn w') l xs ∧ New w w'
/-- The row while it grows. -/
structure Rows (w wr : World) (v : Value) (l : List Rec) : Prop where
  row : ∃ xs, wr.ownsRow w.heap.size 69 10 v l.length xs ∧ RecCells (RecIn wr) l xs
  new : New w wr
theorem Rows.grow {w wr w1 w2 : World} {v v' : Value} {l : List Rec} {xs : List Value} (hown : wr.ownsRow w.heap.size 69 10 v l.length xs) (hc : RecCells (RecIn wr) l xs) (hw : New w wr) (hn : New wr w1) {r : Rec} {bv av uv : Value} (hr : RecIn w1 r bv av uv)
    (hown2 : w2.ownsRow w.heap.size 69 10 v' (l.length + 1) (xs ++ (recCells r bv av uv).toList)) (hg : w1.grownBy w2 v.ownBlock) : Rows w w2 v' (l ++ [r]) := by
  have hown1 := own_old hown hn
  have ht : Turn (fun k => v.ownBlock = some k) w1 w2 := Turn.grown (Turn.refl _ w1) hg (fun k _ e => e)
  have a5 := apart_own hown1 (show (69 : TypeId) ≠ 5 by decide)
  have a90 : Apart90 (fun k => v.ownBlock = some k) w1 := fun k c fr hk hh => own_ne hown1 hh (by decide) hk
  refine ⟨⟨_, by rw [List.length_append]; exact hown2, ((hc.imp fun r' _ _ _ h => (h.new hn)).snoc hr).imp fun r' _ _ _ h => h.turn ht a5 a90⟩, ?_⟩
  exact Below.trans (hw.trans hn) (ht.below (fun k e => own_from hown1 k e) (hw.trans hn).size)

end Go.Proofs.Ytdccbceaajnajaa

namespace Go.Proofs.Ytdccbceaajnajaa
open Go.RowKit
set_option linter.unusedSimpArgs false
set_option linter.unusedVariables false

/-- A list of records that lies in memory. -/
def Recs (w : World) (v : Value) (l : List Rec) : Prop :=
  ∃ p c, v = .slice p l.length c ∧ l.length ≤ c ∧ c ≤ maxLen ∧ (0 < l.length → ∃ b o, p = some ⟨b, o, none⟩ ∧ b < w.heap.size ∧ ∀ i (h : i < l.length), ∃ bv av uv, RecAt w l[i] bv av uv ∧ ∀ j, j < 10 → w.cell? ⟨b, o + i * 10 + j, none⟩ = (recCells l[i] bv av uv)[j]?)
theorem Recs.new {w w' : World} {v : Value} {l : List Rec} (h : Recs w v l) (hn : New w w') : Recs w' v l := by
  obtain ⟨p, c, e, h1, h2, h3⟩ := h
  refine ⟨p, c, e, h1, h2, fun h0 => ?_⟩
  obtain ⟨b, o, e2, hb, hx⟩ := h3 h0
  refine ⟨b, o, e2, Nat.lt_of_lt_of_le hb hn.size, fun i hi => ?_⟩
  obtain ⟨bv, av, uv, hr, hc⟩ := hx i hi
  exact ⟨bv, av, uv, hr.new hn, fun j hj => by rw [hn.cell _ _ hb]; exact hc j hj⟩
theorem Recs.row {w : World} {base : Nat} {v : Value} {l : List Rec} {xs : List Value} (h : w.ownsRow base 69 10 v l.length xs) (hc : RecCells (RecAt w) l xs) : Recs w v l := by
  obtain ⟨p, c, rfl, h1, h2, _⟩ := RowAt.owned h
  refine ⟨p, c, rfl, h1, h2, fun h0 => ?_⟩
  obtain ⟨g, cap, e, -, hg⟩ := h.form h0
  injection e with e1 _ e3
  subst e1 e3
  refine ⟨g, 0, rfl, hg, fun i hi => ?_⟩
  obtain ⟨bv, av, uv, hr, hj⟩ := rec_row h hc rfl hi
  exact ⟨bv, av, uv, hr, fun j hj' => by rw [Nat.zero_add]; exact hj j hj'⟩
theorem Recs.owned {w : World} {base : Nat} {v : Value} {l : List Rec} {xs : List Value} (h : w.ownsRow base 69 10 v l.length xs) (hc : RecCells (RecIn w) l xs) : Recs w v l := Recs.row h (hc.imp fun r _ _ _ hr => hr.at)
theorem Recs.form {w : World} {v : Value} {l : List Rec} (h : Recs w v l) : ∃ p c, v = .slice p l.length c ∧ l.length ≤ c ∧ c ≤ maxLen := by
  obtain ⟨p, c, e, h1, h2, _⟩ := h
  exact ⟨p, c, e, h1, h2⟩
/-- A record of it. -/
theorem Recs.get {w : World} {p : Option Addr} {n c : Nat} {l : List Rec} (h : Recs w (.slice p n c) l) {k : Nat} (hk : k < l.length) :
    ∃ b o p1 c1 p2 c2 p3 c3, p = some ⟨b, o, none⟩ ∧ b < w.heap.size ∧ RecAt w l[k] (.slice p1 l[k].before.size c1) (.slice p2 l[k].after.size c2) (.slice p3 l[k].units.length c3) ∧
      ∀ j, j < 10 → w.cell? ⟨b, o + k * 10 + j, none⟩ = (recCells l[k] (.slice p1 l[k].before.size c1) (.slice p2 l[k].after.size c2) (.slice p3 l[k].units.length c3))[j]? := by
  obtain ⟨p', c', e, h1, h2, h3⟩ := h
  injection e with e1 e2 e3
  subst e1
  obtain ⟨b, o, rfl, hb, hx⟩ := h3 (by omega)
  obtain ⟨bv, av, uv, hr, hj⟩ := hx k hk
  obtain ⟨⟨p1, c1, rfl, -⟩, ⟨p2, c2, rfl, -⟩, ⟨p3, c3, rfl, -⟩⟩ := id hr
  exact ⟨b, o, p1, c1, p2, c2, p3, c3, rfl, hb, hr, hj⟩
end Go.Proofs.Ytdccbceaajnajaa
