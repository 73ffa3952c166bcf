/- What tape.Open finds on a disk, in plain words. tape.Open on a disk that is up and not armed. A log that was written, in plain words. -/
import Derived.Test.YtdccbceaajnajaaGreatU2
import Derived.Test.YtdccbceaajnajaaGreatD46
import Derived.Test.YtdccbceaajnajaaGreatT21
namespace Go.Proofs.YtdccbceaajnajaaGreat
open Go.RowKit
set_option linter.unusedSimpArgs false
set_option linter.unusedVariables false

/-- The bytes of a block of the log (counted from 0), as they are read. -/
def blkAt (A : ADisk) (i : Nat) : ByteArray := layAll A.waits A.safe (120 + i)
def blkL (A : ADisk) (i : Nat) : List UInt8 := (blkAt A i).data.toList
theorem blk_bytes (A : ADisk) (i : Nat) : blkAt A i = bytesOf (blkL A i) := by simp [bytesOf, blkL]
/-- Is there the record that must be there? -/
def goodB (A : ADisk) (i : Nat) : Bool := decOk (blkL A i) && decide ((decHead (blkL A i)).num = (i : Int) + 1)
/-- The records found in the first k blocks, and whether all of them were there. -/
def scan (A : ADisk) : Nat → List Rec × Bool
  | 0 => ([], true)
  | k + 1 => if (scan A k).2 && goodB A k then ((scan A k).1 ++ [(decRec (blkL A k)).1], true) else ((scan A k).1, false)
/-- Is something written behind the records, in the first k blocks? -/
def junk (A : ADisk) : Nat → Bool
  | 0 => false
  | k + 1 => junk A k || (!((scan A k).2 && goodB A k) && decide (0 < (blkAt A k).size))
/-- The disk when the first k blocks were looked at. -/
def swept (A : ADisk) : Nat → ADisk
  | 0 => A
  | k + 1 => if !((scan A k).2 && goodB A k) && decide (0 < (blkAt A k).size) then writeA (swept A k) (120 + (k : Int)) ByteArray.empty else swept A k
def openA (A : ADisk) : ADisk := if junk A 3000 then flushA (swept A 3000) else swept A 3000
def openT (A : ADisk) : ATape := ⟨(scan A 3000).1, (scan A 3000).1.length, false⟩

theorem scan_length (A : ADisk) (k : Nat) : (scan A k).1.length ≤ k := by
  induction k with
  | zero => simp [scan]
  | succ k ih => simp only [scan]; split <;> simp <;> omega
theorem scan_valid (A : ADisk) (k : Nat) : ∀ r ∈ (scan A k).1, validB r = true := by
  induction k with
  | zero => simp [scan]
  | succ k ih =>
    simp only [scan]
    split
    · next h =>
      intro r hr
      rw [List.mem_append] at hr
      rcases hr with hr | hr
      · exact ih r hr
      · simp only [List.mem_singleton] at hr
        subst hr
        simp only [Bool.and_eq_true, goodB, decOk] at h
        exact h.2.1.2
    · exact ih
theorem swept_calm {A : ADisk} {m : Nat} (h : Calm A m) (k : Nat) (hk : k ≤ 3000) : Calm (swept A k) (m + k) ∧ ∀ j, k ≤ j → blkAt (swept A k) j = blkAt A j := by
  induction k with
  | zero => exact ⟨h, fun j _ => rfl⟩
  | succ k ih =>
    obtain ⟨h1, h2⟩ := ih (by omega)
    simp only [swept]
    split
    · have hw : writeE (swept A k) (120 + (k : Int)) ByteArray.empty = 0 := writeE_at h1 (by omega) (by decide)
      refine ⟨by have := h1.write hw; rwa [show m + k + 1 = m + (k + 1) by omega] at this, fun j hj => ?_⟩
      have hb : isB (120 + (k : Int)) = true := by unfold isB; simp; omega
      rw [writeA_ok h1 hb (by decide)]
      unfold blkAt
      simp only
      rw [layAll_snoc, if_neg (by simp only; omega)]
      exact h2 j (by omega)
    · exact ⟨h1.mono (by omega), fun j hj => h2 j (by omega)⟩

end Go.Proofs.YtdccbceaajnajaaGreat

namespace Go.Proofs.YtdccbceaajnajaaGreat
open Go.RowKit
set_option linter.unusedSimpArgs false
set_option linter.unusedVariables false

/-- What Open leaves. -/
def Opened (w0 : World) (b : Nat) (ow : Option Nat) (A : ADisk) (w : World) (e : Ending) (w' : World) : Prop :=
  ∃ ow' tb ot, e = .returned (.tuple #[.pointer (some ⟨tb, 0, none⟩), .int .i64 0]) ∧ Log w0 w' b ow' tb ot (openA A) (openT A) ∧ Turn (its b ow) w w' ∧ (∀ k, ow' = some k → ow = some k ∨ w.heap.size ≤ k) ∧ w.heap.size ≤ tb ∧ ∀ k, ot = some k → w.heap.size ≤ k
/-- The state of the loop. -/
structure Opening (w0 w wr : World) (b : Nat) (ow : Option Nat) (tb : Nat) (A : ADisk) (k : Nat) : Prop where
  log : ∃ ow' ot, Log w0 wr b ow' tb ot (swept A k) ⟨(scan A k).1, 0, false⟩ ∧ (∀ j, ow' = some j → ow = some j ∨ w.heap.size ≤ j) ∧ ∀ j, ot = some j → w.heap.size ≤ j
  turn : Turn (its b ow) w wr
  tt : w.heap.size ≤ tb

theorem TapeAt.start {w : World} {b : Nat} : TapeAt (w.alloc (.cells #[.pointer (some ⟨b, 0, none⟩), .slice none 0 0, .int .i64 0, .bool false] 87)) w.heap.size none b ⟨[], 0, false⟩ :=
  ⟨_, heap_alloc_new w _, rfl, [], World.ownsRow_nil _ _ _ _, RecCells.nil _⟩
theorem Turn.fresh {S T : Nat → Prop} {a b c : World} (h : Turn S a b) (ht : Turn T b c) (hT : ∀ k, T k → a.heap.size ≤ k) : Turn S a c :=
  ⟨ht.os.trans h.os, ht.tape.trans h.tape, ht.output.trans h.output, Nat.le_trans h.size ht.size, fun k hk hs => by
    rw [ht.block k (Nat.lt_of_lt_of_le hk h.size) (fun h1 => by have := hT k h1; omega)]; exact h.block k hk hs⟩
theorem Log.force {w0 w : World} {b tb : Nat} {ow ot : Option Nat} {A : ADisk} {T : ATape} (h : Log w0 w b ow tb ot A T) (n : Nat) :
    Log w0 (w.setCell ⟨tb, 2, none⟩ (.int .i64 (n : Int))) b ow tb ot A { T with forced := n } ∧ Turn (· = tb) w (w.setCell ⟨tb, 2, none⟩ (.int .i64 (n : Int))) := by
  obtain ⟨v, e1, e2, xs, e3, e4⟩ := h.tape
  have s2 := turn_set w tb 2 (.int .i64 (n : Int))
  have b5 : Apart (· = tb) w := apart_of e1 (by decide)
  have b90 : Apart90 (· = tb) w := fun k c fr hk hh => by subst hk; exact type_ne e1 hh (by decide) rfl
  have h1 : TapeAt (w.setCell ⟨tb, 2, none⟩ (.int .i64 (n : Int))) tb ot b { T with forced := n } := ⟨v, heap_setCell_same _ tb 2 _ 87 _ e1, e2, xs, own_turn e3 s2 (fun k hk e => own_ne e3 e1 (by decide) (e ▸ hk)), e4.imp fun r _ _ _ hr => hr.turn s2 b5 b90⟩
  exact ⟨{ h with disk := disk_keep h.disk s2 (fun k hk => by subst hk; exact ⟨_, _, _, e1, by decide, by decide, by decide⟩), tape := h1, new := Below.trans h.new (s2.below (fun k e => e ▸ h.tt) h.new.size) }, s2⟩
/-- A call that has moved the disk, in the loop. -/
theorem Turn.later {b : Nat} {ow ow' : Option Nat} {w w1 w2 : World} (h : Turn (its b ow) w w1) (ht : Turn (its b ow') w1 w2) (how : ∀ j, ow' = some j → ow = some j ∨ w.heap.size ≤ j) : Turn (its b ow) w w2 := by
  refine ⟨ht.os.trans h.os, ht.tape.trans h.tape, ht.output.trans h.output, Nat.le_trans h.size ht.size, fun k hk hs => ?_⟩
  rw [ht.block k (Nat.lt_of_lt_of_le hk h.size) (fun h1 => hs ?_)]
  · exact h.block k hk hs
  · rcases h1 with h1 | h1
    · exact .inl h1
    · rcases how k h1 with h2 | h2
      · exact .inr h2
      · omega

theorem scan_no {A : ADisk} {k : Nat} (h : ((scan A k).2 && goodB A k) = false) : scan A (k + 1) = ((scan A k).1, false) := by
  simp only [scan, h, Bool.false_eq_true, if_false]
theorem scan_yes {A : ADisk} {k : Nat} (h : ((scan A k).2 && goodB A k) = true) : scan A (k + 1) = ((scan A k).1 ++ [(decRec (blkL A k)).1], true) ∧ junk A (k + 1) = junk A k ∧ swept A (k + 1) = swept A k := by
  refine ⟨by simp only [scan, h, if_true], by simp only [junk, h]; simp, by simp only [swept, h]; simp⟩
theorem junk_step {A : ADisk} {k : Nat} (h : ((scan A k).2 && goodB A k) = false) : junk A (k + 1) = (junk A k || decide (0 < (blkL A k).length)) ∧ swept A (k + 1) = if 0 < (blkL A k).length then writeA (swept A k) (120 + (k : Int)) ByteArray.empty else swept A k := by
  have e : (blkAt A k).size = (blkL A k).length := by rw [blk_bytes, bytesOf_size]
  refine ⟨by simp only [junk, h, e]; simp, ?_⟩
  simp only [swept, h, e]
  by_cases hz : 0 < (blkL A k).length <;> simp [hz]
theorem read_calm {A : ADisk} {m : Nat} (h : Calm A m) {k : Nat} (hk : k < 3000) : readE A (120 + (k : Int)) = 0 ∧ readB A (120 + (k : Int)) = blkAt A k := by
  have hb : isB (120 + (k : Int)) = true := by unfold isB; simp; omega
  have e : readE A (120 + (k : Int)) = 0 := by simp [readE, hb, h.down]
  refine ⟨e, ?_⟩
  simp only [readB, e, if_true, blkAt]
  congr 1
/-- The tape's row has one more. -/
theorem TapeAt.grow1 {w w1 w2 : World} {tb b : Nat} {T : ATape} {v v' : Value} {xs : List Value} (he : w.heap[tb]? = some (.cells #[.pointer (some ⟨b, 0, none⟩), v, .int .i64 (T.forced : Int), .bool T.late] 87 (0, 0)))
    (hown : w.ownsRow 0 70 10 v T.recs.length xs) (hc : RecCells (RecIn w) T.recs xs) (hn : New w w1) {r : Rec} {bv av uv : Value} (hr : RecIn w1 r bv av uv) (hown2 : w2.ownsRow 0 70 10 v' (T.recs.length + 1) (xs ++ (recCells r bv av uv).toList)) (hg : w1.grownBy w2 v.ownBlock) :
    TapeAt (w2.setCell ⟨tb, 1, none⟩ v') tb v'.ownBlock b { T with recs := T.recs ++ [r] } ∧ Turn (fun k => k = tb ∨ v.ownBlock = some k) w (w2.setCell ⟨tb, 1, none⟩ v') := by
  have e1 : w1.heap[tb]? = some (.cells #[.pointer (some ⟨b, 0, none⟩), v, .int .i64 (T.forced : Int), .bool T.late] 87 (0, 0)) := by rw [Below.block hn _ (Array.getElem?_eq_some_iff.1 he).1]; exact he
  have hown1 := own_old hown hn
  have ht : Turn (fun k => v.ownBlock = some k) w1 w2 := Turn.grown (Turn.refl _ w1) hg (fun k _ e => e)
  have e2 : w2.heap[tb]? = some (.cells #[.pointer (some ⟨b, 0, none⟩), v, .int .i64 (T.forced : Int), .bool T.late] 87 (0, 0)) := by
    rw [ht.block tb (Array.getElem?_eq_some_iff.1 e1).1 (own_ne hown1 e1 (by decide))]; exact e1
  have s2 := turn_set w2 tb 1 v'
  have e3 := heap_setCell_same w2 tb 1 _ 87 v' e2
  have a5 := apart_own hown1 (show (70 : TypeId) ≠ 5 by decide)
  have a90 : Apart90 (fun k => v.ownBlock = some k) w1 := fun k c fr hk hh => own_ne hown1 hh (by decide) hk
  have b5 : Apart (· = tb) w2 := apart_of e2 (by decide)
  have b90 : Apart90 (· = tb) w2 := fun k c fr hk hh => by subst hk; exact type_ne e2 hh (by decide) rfl
  refine ⟨⟨v', e3, rfl, xs ++ (recCells r bv av uv).toList, ?_, ?_⟩, ?_⟩
  · have : w2.ownsRow 0 70 10 v' (T.recs ++ [r]).length (xs ++ (recCells r bv av uv).toList) := by rw [List.length_append]; exact hown2
    exact own_turn this s2 (fun k hk e => own_ne this e2 (by decide) (e ▸ hk))
  · exact ((hc.imp fun r' _ _ _ h => (h.new hn)).snoc hr).imp fun r' _ _ _ h => (h.turn ht a5 a90).turn s2 b5 b90
  · exact ((Turn.of_new hn).trans (ht.mono (fun k _ e => Or.inr e))).trans (s2.mono (fun k _ e => Or.inl e))
/-- The log when one more record was found. -/
theorem Log.found {w0 w3 w5 w8 : World} {b tb : Nat} {ow ot : Option Nat} {A : ADisk} {T : ATape} {r : Rec} (hL : Log w0 w3 b ow tb ot A T)
    {v : Value} {xs : List Value} (te : w3.heap[tb]? = some (.cells #[.pointer (some ⟨b, 0, none⟩), v, .int .i64 (T.forced : Int), .bool T.late] 87 (0, 0))) (tv : v.ownBlock = ot) (tw : w3.ownsRow 0 70 10 v T.recs.length xs) (tr : RecCells (RecIn w3) T.recs xs)
    (hn : New w3 w5) {bv av uv : Value} (hr : RecIn w5 r bv av uv) {g8 k8 : Nat} (own8 : w8.ownsRow 0 70 10 (.slice (some ⟨g8, 0, none⟩) (T.recs.length + 1) k8) (T.recs.length + 1) (xs ++ (recCells r bv av uv).toList)) (grow8 : w5.grownBy w8 v.ownBlock) (blk8 : v.ownBlock = some g8 ∨ g8 = w5.heap.size) :
    Log w0 (w8.setCell ⟨tb, 1, none⟩ (.slice (some ⟨g8, 0, none⟩) (T.recs.length + 1) k8)) b ow tb (some g8) A { T with recs := T.recs ++ [r] } ∧ Turn (fun k => k = tb ∨ ot = some k) w3 (w8.setCell ⟨tb, 1, none⟩ (.slice (some ⟨g8, 0, none⟩) (T.recs.length + 1) k8)) ∧ (ot = some g8 ∨ w3.heap.size ≤ g8) := by
  obtain ⟨hG, hTT⟩ := TapeAt.grow1 te tw tr hn hr own8 grow8
  rw [tv] at hTT
  have hd := disk_keep hL.disk hTT (fun k hk => by
    rcases hk with rfl | hk
    · exact ⟨_, _, _, te, by decide, by decide, by decide⟩
    · obtain ⟨c, hc⟩ := hL.tape.row hk
      exact ⟨_, _, _, hc, by decide, by decide, by decide⟩)
  have hs5 := hn.size
  have hw0 := hL.new.size
  have hor : ot = some g8 ∨ w3.heap.size ≤ g8 := by
    rcases blk8 with h | h
    · exact .inl (tv ▸ h)
    · exact .inr (by omega)
  refine ⟨⟨hd, hG, ?_, hL.bb, hL.oo, hL.tt, ?_⟩, hTT, hor⟩
  · refine Below.trans hL.new (hTT.below (fun k hk => ?_) hL.new.size)
    rcases hk with rfl | hk
    · exact hL.tt
    · exact hL.rr k hk
  · intro k hk
    injection hk with hk
    subst hk
    rcases hor with h | h
    · exact hL.rr _ h
    · omega

set_option maxRecDepth 100000 in
set_option maxHeartbeats 8000000 in
theorem open_any (w0 : World) (b : Nat) (ow : Option Nat) (A : ADisk) (m : Nat) (w : World) (hM : Mine w0 w b ow A) (hC : Calm A m) (hm : m ≤ 1000000) : Calls Tryz.prog 23 #[.pointer (some ⟨b, 0, none⟩)] w (Opened w0 b ow A w) := by
  have O0 : Opening w0 w (w.alloc (.cells #[.pointer (some ⟨b, 0, none⟩), .slice none 0 0, .int .i64 0, .bool false] 87)) b ow w.heap.size A 0 :=
    ⟨⟨ow, none, ⟨hM.disk.new ((New.refl w).alloc _ _), TapeAt.start, hM.new.alloc _ _, hM.bb, hM.oo, hM.new.size, fun k h => by cases h⟩, fun j h => .inl h, fun j h => by cases h⟩, Turn.of_new ((New.refl w).alloc _ _), Nat.le_refl _⟩
  have O0 := hid O0
  have HC := hid hC
  have HM := hid hm
  clear hM hC hm
  go_enter Tryz.func23, Tryz.ntmps23
  go_wp2
  go_loopw [5, 6, 7, 8, 9, 10, 11, 12, 13] (fun o j i _ _ _ _ _ _ wr => ∃ k : Nat, k ≤ 3000 ∧ i = .int .i64 ((k : Int) + 1) ∧ o = .bool (scan A k).2 ∧ j = .bool (junk A k) ∧ Hid (Opening w0 w wr b ow w.heap.size A k)) (fun _ _ i _ _ _ _ _ _ _ => 3001 - (intOf i).toNat)
  case atStart => exact ⟨0, Nat.zero_le _, rfl, rfl, rfl, O0⟩
  case round =>
    obtain ⟨k, hk, rfl, rfl, rfl, hyp⟩ := hrel
    by_cases hlt : k < 3000
    · obtain ⟨SC, SB⟩ := swept_calm HC.out k hk
      obtain ⟨ow1, ot1, hL, how, hot⟩ := hyp.out.log
      have B1 := hid (SB k (Nat.le_refl k))
      have SC := hid SC
      have LL := hid hL
      have OW := hid how
      have OT := hid hot
      have TU := hid hyp.out.turn
      have TT := hid hyp.out.tt
      have q1 : decide ((k : Int) + 1 ≤ 3000) = true := by simp; omega
      clear SB hL how hot hyp
      go_wp2_with fail
      have e1 : (120 : Int) + ((k : Int) + 1) - 1 = 120 + (k : Int) := by omega
      try rw [e1]
      refine (read_any b ow1 (swept A k) (120 + (k : Int)) _ LL.out.disk SC.out.small (by have := SC.out.waits; have := HM.out; omega)).mono ?_
      clear e1
      rintro e w1 ⟨v, rfl, hv, n1⟩
      obtain ⟨r1, r2⟩ := read_calm SC.out hlt
      rw [r1]
      rw [r2, B1.out, blk_bytes] at hv
      obtain ⟨l, hl⟩ : ∃ l, l = blkL A k := ⟨_, rfl⟩
      rw [← hl] at hv
      obtain ⟨p, c, rfl, k1, k2, -⟩ := id hv.1
      rw [bytesOf_size] at k1 hv ⊢
      have L1 := hid (LL.out.newer n1)
      have T1 := hid (TU.out.trans (Turn.of_new n1))
      have HV := hid hv.1
      have HL := hid hl
      have BL : Hid (l.length ≤ 1000000) := hid (by
        have := (SC.out.small.lay (120 + k) (by omega))
        have e : layAll (swept A k).waits (swept A k).safe (120 + k) = bytesOf l := by rw [hl, ← blk_bytes]; exact B1.out
        rw [e, bytesOf_size] at this
        omega)
      have R2 := hid r2
      clear hv hl r1 r2 n1 LL TU
      obtain ⟨o, ho⟩ : ∃ o, o = (scan A k).2 := ⟨_, rfl⟩
      obtain ⟨jb, hj⟩ : ∃ jb, jb = junk A k := ⟨_, rfl⟩
      rw [← ho, ← hj]
      have HO := hid ho
      have HJ := hid hj
      clear ho hj
      cases o with
      | false =>
        have NG : Hid (((scan A k).2 && goodB A k) = false) := hid (by rw [← HO.out]; rfl)
        by_cases hz : 0 < l.length
        · have q2 : decide (0 < l.length) = true := by simpa using hz
          have q3 : decide ((0 : Int) < (l.length : Int)) = true := by simpa using hz
          have HZ := hid hz
          clear hz
          go_wp2_with fail
          have e1 : (120 : Int) + ((k : Int) + 1) - 1 = 120 + (k : Int) := by omega
          try rw [e1]
          refine (write_any b ow1 (swept A k) (120 + (k : Int)) _ ByteArray.empty _ L1.out.disk (Content.nil _).1 (fun h => absurd h (by decide)) (by have := SC.out.falls; omega) (by have := SC.out.acts; have := HM.out; omega) (by have := SC.out.waits; have := HM.out; omega)).mono ?_
          clear e1
          rintro e w3 hmv
          obtain ⟨ow2, rfl, hL2, ht2, how2⟩ := L1.out.moved hmv
          rw [writeE_at SC.out hlt (by decide)]
          have JS := hid (junk_step NG.out)
          have L2 := hid hL2
          have T2 := hid (T1.out.later ht2 OW.out)
          have OW2 : Hid (∀ j, ow2 = some j → ow = some j ∨ w.heap.size ≤ j) := hid (fun j hj => by
            rcases how2 j hj with h | h
            · exact OW.out j h
            · exact .inr (Nat.le_trans T1.out.size h))
          clear hmv hL2 ht2 how2 q2 q3
          go_wp2
          go_roundw
          case rel =>
            have e1 : junk A (k + 1) = true := by rw [JS.out.1, HL.out.symm, decide_eq_true HZ.out, Bool.or_true]
            have e2 : swept A (k + 1) = writeA (swept A k) (120 + (k : Int)) ByteArray.empty := by rw [JS.out.2, if_pos (by rw [← HL.out]; exact HZ.out)]
            refine ⟨k + 1, by omega, by go_num, by rw [scan_no NG.out], by rw [e1], hid ⟨⟨ow2, ot1, ?_, OW2.out, OT.out⟩, T2.out, TT.out⟩⟩
            rw [e2, scan_no NG.out]; exact L2.out
          case measure => simp [intOf]; omega
        · have q2 : decide (0 < l.length) = false := by simpa using hz
          have q3 : decide ((0 : Int) < (l.length : Int)) = false := by simpa using hz
          have HZ := hid hz
          clear hz
          have JS := hid (junk_step NG.out)
          go_wp2
          go_roundw
          case rel =>
            have e1 : junk A (k + 1) = jb := by rw [JS.out.1, HL.out.symm, decide_eq_false HZ.out, Bool.or_false, HJ.out]
            have e2 : swept A (k + 1) = swept A k := by rw [JS.out.2, if_neg (by rw [← HL.out]; exact HZ.out)]
            refine ⟨k + 1, by omega, by go_num, by rw [scan_no NG.out], by rw [e1], hid ⟨⟨ow1, ot1, ?_, OW.out, OT.out⟩, T1.out, TT.out⟩⟩
            rw [e2, scan_no NG.out]; exact L1.out
          case measure => simp [intOf]; omega
      | true =>
        obtain ⟨g, hg⟩ : ∃ g, g = goodB A k := ⟨_, rfl⟩
        have HG := hid hg
        clear hg
        obtain ⟨D, hD⟩ : ∃ D, D = decOk l := ⟨_, rfl⟩
        obtain ⟨N, hN⟩ : ∃ N, N = (if decOk l then (decHead l).num else 0) := ⟨_, rfl⟩
        obtain ⟨R, hR⟩ : ∃ R, R = (if decOk l then (decRec l).1 else rec0) := ⟨_, rfl⟩
        obtain ⟨E, hE⟩ : ∃ E : Int, E = (if decOk l then 0 else 3) := ⟨_, rfl⟩
        have HD := hid hD
        have HN := hid hN
        have HR := hid hR
        have HE := hid hE
        clear hD hN hR hE
        go_wp2_with fail
        refine (decode_any _ l _ HV.out BL.out).mono ?_
        rintro e w2 ⟨bv, av, uv, hin, n2, rfl⟩
        rw [← HR.out, ← HN.out, ← HE.out]
        rw [← HR.out] at hin
        obtain ⟨⟨⟨p1, c1, rfl, -⟩, -⟩, ⟨⟨p2, c2, rfl, -⟩, -⟩, ⟨⟨p3, c3, rfl, -⟩, -⟩⟩ := id hin
        have HC5 : recCells R (.slice p1 R.before.size c1) (.slice p2 R.after.size c2) (.slice p3 R.units.length c3) = #[.int .i64 R.kind, .int .i64 R.unit, .int .i64 R.page, .int .i64 R.at_, .slice p1 R.before.size c1, .slice p2 R.after.size c2, .int .i64 R.back, .int .i64 R.next, .string R.text, .slice p3 R.units.length c3] := rfl
        rw [HC5]
        clear HC5
        have IN := hid (hin.new ((New.refl w2).alloc #[.int .i64 R.kind, .int .i64 R.unit, .int .i64 R.page, .int .i64 R.at_, .slice p1 R.before.size c1, .slice p2 R.after.size c2, .int .i64 R.back, .int .i64 R.next, .string R.text, .slice p3 R.units.length c3] 70))
        have N2 := hid (n2.alloc #[.int .i64 R.kind, .int .i64 R.unit, .int .i64 R.page, .int .i64 R.at_, .slice p1 R.before.size c1, .slice p2 R.after.size c2, .int .i64 R.back, .int .i64 R.next, .string R.text, .slice p3 R.units.length c3] 70)
        have L3 := hid (L1.out.newer N2.out)
        have T3 := hid (T1.out.trans (Turn.of_new N2.out))
        clear hin n2
        have L1 := L1
        cases D with
        | false =>
          have hE3 : E = 3 := by rw [HE.out, ← HD.out]; rfl
          subst hE3
          have NG : Hid (((scan A k).2 && goodB A k) = false) := hid (by
            have : goodB A k = false := by simp only [goodB, ← HL.out, ← HD.out, Bool.false_and]
            rw [this, Bool.and_false])
          clear L1 T1
          have L1 := hid L3.out
          have T1 := hid T3.out
          clear L3 T3
          by_cases hz : 0 < l.length
          · have q2 : decide (0 < l.length) = true := by simpa using hz
            have q3 : decide ((0 : Int) < (l.length : Int)) = true := by simpa using hz
            have HZ := hid hz
            clear hz
            go_wp2_with fail
            have e1 : (120 : Int) + ((k : Int) + 1) - 1 = 120 + (k : Int) := by omega
            try rw [e1]
            refine (write_any b ow1 (swept A k) (120 + (k : Int)) _ ByteArray.empty _ L1.out.disk (Content.nil _).1 (fun h => absurd h (by decide)) (by have := SC.out.falls; omega) (by have := SC.out.acts; have := HM.out; omega) (by have := SC.out.waits; have := HM.out; omega)).mono ?_
            clear e1
            rintro e w3 hmv
            obtain ⟨ow2, rfl, hL2, ht2, how2⟩ := L1.out.moved hmv
            rw [writeE_at SC.out hlt (by decide)]
            have JS := hid (junk_step NG.out)
            have L2 := hid hL2
            have T2 := hid (T1.out.later ht2 OW.out)
            have OW2 : Hid (∀ j, ow2 = some j → ow = some j ∨ w.heap.size ≤ j) := hid (fun j hj => by
              rcases how2 j hj with h | h
              · exact OW.out j h
              · exact .inr (Nat.le_trans T1.out.size h))
            clear hmv hL2 ht2 how2 q2 q3
            go_wp2
            go_roundw
            case rel =>
              have e1 : junk A (k + 1) = true := by rw [JS.out.1, HL.out.symm, decide_eq_true HZ.out, Bool.or_true]
              have e2 : swept A (k + 1) = writeA (swept A k) (120 + (k : Int)) ByteArray.empty := by rw [JS.out.2, if_pos (by rw [← HL.out]; exact HZ.out)]
              refine ⟨k + 1, by omega, by go_num, by rw [scan_no NG.out], by rw [e1], hid ⟨⟨ow2, ot1, ?_, OW2.out, OT.out⟩, T2.out, TT.out⟩⟩
              rw [e2, scan_no NG.out]; exact L2.out
            case measure => simp [intOf]; omega
          · have q2 : decide (0 < l.length) = false := by simpa using hz
            have q3 : decide ((0 : Int) < (l.length : Int)) = false := by simpa using hz
            have HZ := hid hz
            clear hz
            have JS := hid (junk_step NG.out)
            go_wp2
            go_roundw
            case rel =>
              have e1 : junk A (k + 1) = jb := by rw [JS.out.1, HL.out.symm, decide_eq_false HZ.out, Bool.or_false, HJ.out]
              have e2 : swept A (k + 1) = swept A k := by rw [JS.out.2, if_neg (by rw [← HL.out]; exact HZ.out)]
              refine ⟨k + 1, by omega, by go_num, by rw [scan_no NG.out], by rw [e1], hid ⟨⟨ow1, ot1, ?_, OW.out, OT.out⟩, T1.out, TT.out⟩⟩
              rw [e2, scan_no NG.out]; exact L1.out
            case measure => simp [intOf]; omega
        | true =>
          have hE0 : E = 0 := by rw [HE.out, ← HD.out]; rfl
          subst hE0
          have hN0 : N = (decHead l).num := by rw [HN.out, ← HD.out]; rfl
          have hR0 : R = (decRec l).1 := by rw [HR.out, ← HD.out]; rfl
          have HN0 := hid hN0
          have HR0 := hid hR0
          clear hN0 hR0
          by_cases hnk : N = (k : Int) + 1
          · have YG : Hid (((scan A k).2 && goodB A k) = true) := hid (by
              have : goodB A k = true := by simp only [goodB, ← HL.out, ← HD.out, Bool.true_and, ← HN0.out]; exact decide_eq_true hnk
              rw [this, Bool.and_true]; exact HO.out.symm)
            have q4 : (N == (k : Int) + 1) = true := by simpa using hnk
            clear hnk
            obtain ⟨v4, te, tv, xs, tw, tr⟩ := L3.out.tape
            obtain ⟨tp, tc, rfl⟩ := own_len tw
            have hlt3 : w.heap.size < (w2.alloc (.cells #[.int .i64 R.kind, .int .i64 R.unit, .int .i64 R.page, .int .i64 R.at_, .slice p1 R.before.size c1, .slice p2 R.after.size c2, .int .i64 R.back, .int .i64 R.next, .string R.text, .slice p3 R.units.length c3] 70)).heap.size := (Array.getElem?_eq_some_iff.1 te).1
            have ml := cells_of (heap_alloc_new w2 (.cells #[.int .i64 R.kind, .int .i64 R.unit, .int .i64 R.page, .int .i64 R.at_, .slice p1 R.before.size c1, .slice p2 R.after.size c2, .int .i64 R.back, .int .i64 R.next, .string R.text, .slice p3 R.units.length c3] 70))
            have hsz : w2.heap.size < (w2.alloc (.cells #[.int .i64 R.kind, .int .i64 R.unit, .int .i64 R.page, .int .i64 R.at_, .slice p1 R.before.size c1, .slice p2 R.after.size c2, .int .i64 R.back, .int .i64 R.next, .string R.text, .slice p3 R.units.length c3] 70)).heap.size := by simp
            have hc := cells_of te
            have hf := frozen_of te
            have TE := hid te
            have TO := hid tw
            have TR := hid tr
            have hq := own_ne tw te (show (87 : TypeId) ≠ 70 by decide)
            have HQ := hid hq
            have LE := hid (show (scan A k).1.length ≤ 1000000 by have := scan_length A k; omega)
            clear te tw tr hq
            go_upto_region 14 with fail
            generalize w2.alloc (.cells #[.int .i64 R.kind, .int .i64 R.unit, .int .i64 R.page, .int .i64 R.at_, .slice p1 R.before.size c1, .slice p2 R.after.size c2, .int .i64 R.back, .int .i64 R.next, .string R.text, .slice p3 R.units.length c3] 70) = w3 at *
            have c1' : ∀ w', New w3 w' → w'.cell? ⟨w.heap.size, 1, none⟩ = some (.slice tp (scan A k).1.length tc) := fun w' h => by rw [h.cell w.heap.size 1 hlt3]; exact hc 1
            have z1' : ∀ w', New w3 w' → w'.frozen? ⟨w.heap.size, 1, none⟩ = false := fun w' h => by rw [(bcell h).2 w.heap.size 1 hlt3]; exact hf 1
            go_region_law (first
              | (refine step_rec rfl _ _ rfl _ _ _ rfl 0 (own_old TO.out ((New.refl w3).alloc _ _).drew) (Nat.zero_le _) w3.heap.size R p1 p2 p3 _ c1 _ c2 _ c3 rfl (cells_of (w := (w3.alloc _).drew) (heap_alloc_new w3 _)) LE.out ?_; intro g8 k8 w8 own8 grow8 blk8; have l8 : w.heap.size < ((w3.alloc (.cells #[.int .i64 R.kind, .int .i64 R.unit, .int .i64 R.page, .int .i64 R.at_, .slice p1 R.before.size c1, .slice p2 R.after.size c2, .int .i64 R.back, .int .i64 R.next, .string R.text, .slice p3 R.units.length c3] 70)).drew).heap.size := (by simp; omega); have c8 := grow8.cell_far ⟨w.heap.size, 1, none⟩ l8 (fun e => HQ.out e.symm); have z8 := grow8.frozen_far ⟨w.heap.size, 1, none⟩ l8 (fun e => HQ.out e.symm); rw [c1' _ ((New.refl w3).alloc _ _).drew] at c8; rw [z1' _ ((New.refl w3).alloc _ _).drew] at z8))
            all_goals
              have O8 := hid own8
              have G8 := hid grow8
              have B8 := hid blk8
              clear own8 grow8 blk8 hc hf c1' z1' ml
              go_wp2
              go_roundw
              case rel =>
                obtain ⟨f1, f2, f3⟩ := Log.found L3.out TE.out tv TO.out TR.out ((New.refl w3).alloc #[.int .i64 R.kind, .int .i64 R.unit, .int .i64 R.page, .int .i64 R.at_, .slice p1 R.before.size c1, .slice p2 R.after.size c2, .int .i64 R.back, .int .i64 R.next, .string R.text, .slice p3 R.units.length c3] 70).drew (IN.out.new ((New.refl w3).alloc #[.int .i64 R.kind, .int .i64 R.unit, .int .i64 R.page, .int .i64 R.at_, .slice p1 R.before.size c1, .slice p2 R.after.size c2, .int .i64 R.back, .int .i64 R.next, .string R.text, .slice p3 R.units.length c3] 70).drew) O8.out G8.out B8.out
                obtain ⟨e1, e2, e3⟩ := scan_yes YG.out
                refine ⟨k + 1, by omega, by go_num, by rw [e1], by rw [e2, HJ.out], hid ⟨⟨ow1, some g8, ?_, OW.out, fun j hj => ?_⟩, ?_, TT.out⟩⟩
                · rw [e1, e3, ← HL.out, ← HR0.out]; exact f1
                · injection hj with hj
                  subst hj
                  rcases f3 with h | h
                  · exact OT.out _ h
                  · exact Nat.le_trans T3.out.size h
                · refine T3.out.fresh f2 (fun j hj => ?_)
                  rcases hj with rfl | hj
                  · exact Nat.le_refl _
                  · exact OT.out _ hj
              case measure => simp [intOf]; omega
          · have NG : Hid (((scan A k).2 && goodB A k) = false) := hid (by
              have : goodB A k = false := by simp only [goodB, ← HL.out, ← HD.out, Bool.true_and, ← HN0.out]; exact decide_eq_false hnk
              rw [this, Bool.and_false])
            have q4 : (N == (k : Int) + 1) = false := by simpa using hnk
            clear hnk L1 T1
            have L1 := hid L3.out
            have T1 := hid T3.out
            clear L3 T3
            by_cases hz : 0 < l.length
            · have q2 : decide (0 < l.length) = true := by simpa using hz
              have q3 : decide ((0 : Int) < (l.length : Int)) = true := by simpa using hz
              have HZ := hid hz
              clear hz
              go_wp2_with fail
              have e1 : (120 : Int) + ((k : Int) + 1) - 1 = 120 + (k : Int) := by omega
              try rw [e1]
              refine (write_any b ow1 (swept A k) (120 + (k : Int)) _ ByteArray.empty _ L1.out.disk (Content.nil _).1 (fun h => absurd h (by decide)) (by have := SC.out.falls; omega) (by have := SC.out.acts; have := HM.out; omega) (by have := SC.out.waits; have := HM.out; omega)).mono ?_
              clear e1
              rintro e w3 hmv
              obtain ⟨ow2, rfl, hL2, ht2, how2⟩ := L1.out.moved hmv
              rw [writeE_at SC.out hlt (by decide)]
              have JS := hid (junk_step NG.out)
              have L2 := hid hL2
              have T2 := hid (T1.out.later ht2 OW.out)
              have OW2 : Hid (∀ j, ow2 = some j → ow = some j ∨ w.heap.size ≤ j) := hid (fun j hj => by
                rcases how2 j hj with h | h
                · exact OW.out j h
                · exact .inr (Nat.le_trans T1.out.size h))
              clear hmv hL2 ht2 how2 q2 q3
              go_wp2
              go_roundw
              case rel =>
                have e1 : junk A (k + 1) = true := by rw [JS.out.1, HL.out.symm, decide_eq_true HZ.out, Bool.or_true]
                have e2 : swept A (k + 1) = writeA (swept A k) (120 + (k : Int)) ByteArray.empty := by rw [JS.out.2, if_pos (by rw [← HL.out]; exact HZ.out)]
                refine ⟨k + 1, by omega, by go_num, by rw [scan_no NG.out], by rw [e1], hid ⟨⟨ow2, ot1, ?_, OW2.out, OT.out⟩, T2.out, TT.out⟩⟩
                rw [e2, scan_no NG.out]; exact L2.out
              case measure => simp [intOf]; omega
            · have q2 : decide (0 < l.length) = false := by simpa using hz
              have q3 : decide ((0 : Int) < (l.length : Int)) = false := by simpa using hz
              have HZ := hid hz
              clear hz
              have JS := hid (junk_step NG.out)
              go_wp2
              go_roundw
              case rel =>
                have e1 : junk A (k + 1) = jb := by rw [JS.out.1, HL.out.symm, decide_eq_false HZ.out, Bool.or_false, HJ.out]
                have e2 : swept A (k + 1) = swept A k := by rw [JS.out.2, if_neg (by rw [← HL.out]; exact HZ.out)]
                refine ⟨k + 1, by omega, by go_num, by rw [scan_no NG.out], by rw [e1], hid ⟨⟨ow1, ot1, ?_, OW.out, OT.out⟩, T1.out, TT.out⟩⟩
                rw [e2, scan_no NG.out]; exact L1.out
              case measure => simp [intOf]; omega
    · obtain rfl : k = 3000 := by omega
      obtain ⟨SC, SB⟩ := swept_calm HC.out 3000 (Nat.le_refl _)
      obtain ⟨ow1, ot1, hL, how, hot⟩ := hyp.out.log
      obtain ⟨jb, hj⟩ : ∃ jb, jb = junk A 3000 := ⟨_, rfl⟩
      rw [← hj]
      have HJ := hid hj
      have SC := hid SC
      have LL := hid hL
      have OW := hid how
      have OT := hid hot
      have TU := hid hyp.out.turn
      clear SB hL how hot hyp hj
      have q1 : decide (((3000 : Nat) : Int) + 1 ≤ 3000) = false := by decide
      cases jb with
      | false =>
        obtain ⟨tp, tc, hc, hf⟩ := tape_cells LL.out.tape
        go_wp2
        go_ret2
        obtain ⟨f1, f2⟩ := LL.out.force (scan A 3000).1.length
        refine ⟨ow1, w.heap.size, ot1, rfl, ?_, TU.out.fresh f2 (fun j hj => by omega), OW.out, Nat.le_refl _, OT.out⟩
        rw [show openA A = swept A 3000 by simp [openA, ← HJ.out]]
        exact f1
      | true =>
        go_wp2_with fail
        refine (flush_any b ow1 (swept A 3000) _ LL.out.disk (by have := SC.out.falls; omega) (by have := SC.out.acts; have := HM.out; omega) (by have := SC.out.waits; have := HM.out; omega)).mono ?_
        rintro e w3 hmv
        obtain ⟨ow2, rfl, hL2, ht2, how2⟩ := LL.out.moved hmv
        rw [SC.out.act]
        have L2 := hid hL2
        have T2 := hid (TU.out.later ht2 OW.out)
        have OW2 : Hid (∀ j, ow2 = some j → ow = some j ∨ w.heap.size ≤ j) := hid (fun j hj => by
          rcases how2 j hj with h | h
          · exact OW.out j h
          · exact .inr (Nat.le_trans TU.out.size h))
        clear hmv hL2 ht2 how2
        obtain ⟨tp, tc, hc, hf⟩ := tape_cells L2.out.tape
        go_wp2
        go_ret2
        obtain ⟨f1, f2⟩ := L2.out.force (scan A 3000).1.length
        refine ⟨ow2, w.heap.size, ot1, rfl, ?_, T2.out.fresh f2 (fun j hj => by omega), OW2.out, Nat.le_refl _, OT.out⟩
        rw [show openA A = flushA (swept A 3000) by simp [openA, ← HJ.out]]
        exact f1

end Go.Proofs.YtdccbceaajnajaaGreat

namespace Go.Proofs.YtdccbceaajnajaaGreat
open Go.RowKit
set_option linter.unusedSimpArgs false
set_option linter.unusedVariables false

/-- The blocks of the log are those of these records, and nothing is behind them. -/
structure HasLog (A : ADisk) (l : List Rec) : Prop where
  put : ∀ i (h : i < l.length), blkAt A i = bytesOf (encB ((i : Int) + 1) l[i])
  out : ∀ i, l.length ≤ i → i < 3000 → blkAt A i = ByteArray.empty
  valid : ∀ r ∈ l, validB r = true
  few : l.length ≤ 3000
theorem bytesOf_list (l : List UInt8) : (bytesOf l).data.toList = l := by simp [bytesOf]
theorem HasLog.good {A : ADisk} {l : List Rec} (h : HasLog A l) {i : Nat} (hi : i < l.length) : goodB A i = true ∧ (decRec (blkL A i)).1 = l[i] := by
  have hv := h.valid _ (List.getElem_mem hi)
  have hf := h.few
  have e : blkL A i = encB ((i : Int) + 1) l[i] := by unfold blkL; rw [h.put i hi, bytesOf_list]
  have ok : (validB l[i] && wi 1 ((i : Int) + 1) 1000000) = true := by
    have : wi 1 ((i : Int) + 1) 1000000 = true := by rw [wi_iff]; omega
    rw [hv, this]; rfl
  obtain ⟨h1, h2, h3⟩ := decOk_same ok rfl
  refine ⟨?_, by rw [e, h2]⟩
  unfold goodB
  rw [e, h1, h3]; simp
theorem decOk_nil : decOk [] = false := by decide
theorem HasLog.bad {A : ADisk} {l : List Rec} (h : HasLog A l) {i : Nat} (hi : l.length ≤ i) (hi2 : i < 3000) : goodB A i = false := by
  have e : blkL A i = [] := by unfold blkL; rw [h.out i hi hi2]; rfl
  unfold goodB
  rw [e, decOk_nil]; rfl
theorem HasLog.scan {A : ADisk} {l : List Rec} (h : HasLog A l) : ∀ k, k ≤ 3000 → scan A k = (l.take k, decide (k ≤ l.length)) ∧ junk A k = false ∧ swept A k = A := by
  intro k
  induction k with
  | zero => intro _; exact ⟨by simp [Proofs.YtdccbceaajnajaaGreat.scan], rfl, rfl⟩
  | succ k ih =>
    intro hk
    obtain ⟨h1, h2, h3⟩ := ih (by omega)
    rcases Nat.lt_or_ge k l.length with hlt | hge
    · obtain ⟨g1, g2⟩ := h.good hlt
      have hy : ((Proofs.YtdccbceaajnajaaGreat.scan A k).2 && goodB A k) = true := by rw [h1, g1]; simp; omega
      obtain ⟨e1, e2, e3⟩ := scan_yes hy
      refine ⟨?_, by rw [e2, h2], by rw [e3, h3]⟩
      rw [e1, h1, g2, List.take_append_getElem hlt]
      simp; omega
    · have g := h.bad hge (by omega)
      have hn : ((Proofs.YtdccbceaajnajaaGreat.scan A k).2 && goodB A k) = false := by rw [g]; simp
      have hz : (blkL A k).length = 0 := by unfold blkL; rw [h.out k hge (by omega)]; rfl
      have e2 := junk_step hn
      refine ⟨?_, by rw [e2.1, h2, hz]; rfl, by rw [e2.2, hz]; simpa using h3⟩
      rw [scan_no hn, h1, List.take_of_length_le hge, List.take_of_length_le (by omega)]
      simp; omega
theorem HasLog.opened {A : ADisk} {l : List Rec} (h : HasLog A l) : openA A = A ∧ openT A = ⟨l, l.length, false⟩ := by
  obtain ⟨h1, h2, h3⟩ := h.scan 3000 (Nat.le_refl _)
  have e : l.take 3000 = l := List.take_of_length_le h.few
  refine ⟨by simp [openA, h2, h3], ?_⟩
  unfold openT
  rw [h1, e]
theorem HasLog.new : HasLog newA [] := by
  refine ⟨fun i h => absurd h (Nat.not_lt_zero _), fun i _ _ => ?_, (fun r hr => absurd hr (List.not_mem_nil)), by simp⟩
  simp [blkAt, newA, layAll]
theorem HasLog.append {A : ADisk} {T : ATape} {m : Nat} (h : HasLog A T.recs) (hC : Calm A m) {r : Rec} (h0 : appendE T r = 0) : HasLog (appendA A T r) (appendT T r).recs ∧ Calm (appendA A T r) (m + 1) ∧ (appendT T r).recs = T.recs ++ [r] ∧ (appendT T r).forced = T.forced := by
  have hv : validB r = true := by
    cases hv : validB r with
    | true => rfl
    | false => simp [appendE, hv] at h0
  have hlt : T.recs.length < 3000 := by
    rcases Nat.lt_or_ge T.recs.length 3000 with h' | h'
    · exact h'
    · have : T.recs.length = 3000 := by have := h.few; omega
      simp [appendE, hv, this] at h0
  have hs := encB_small (n := (T.recs.length : Int) + 1) hv
  have hw := writeE_at hC hlt hs
  have hb : isB (120 + (T.recs.length : Int)) = true := by unfold isB; simp; omega
  have eA : appendA A T r = writeA A (120 + (T.recs.length : Int)) (bytesOf (encB ((T.recs.length : Int) + 1) r)) := by simp only [appendA, if_pos h0]
  have eT : appendT T r = { T with recs := T.recs ++ [r], late := true } := by simp only [appendT, if_pos h0]
  have eB : ∀ j, blkAt (appendA A T r) j = if j = T.recs.length then bytesOf (encB ((T.recs.length : Int) + 1) r) else blkAt A j := by
    intro j
    rw [eA, writeA_ok hC hb hs]
    unfold blkAt
    simp only
    rw [layAll_snoc]
    have : (120 + (T.recs.length : Int)).toNat = 120 + T.recs.length := by omega
    simp only [this]
    by_cases hj : j = T.recs.length
    · rw [if_pos (by omega), if_pos hj]
    · rw [if_neg (by omega), if_neg hj]
  refine ⟨?_, by rw [eA]; exact hC.write hw, by rw [eT], by rw [eT]⟩
  rw [eT]
  refine ⟨fun i hi => ?_, fun i hi hi2 => ?_, fun q hq => ?_, by simp; omega⟩
  · rw [eB i]
    rcases Nat.lt_or_ge i T.recs.length with hlt2 | hge
    · rw [if_neg (by omega), h.put i hlt2]
      simp only [List.getElem_append_left hlt2]
    · have : i = T.recs.length := by simp at hi; omega
      subst this
      rw [if_pos rfl]
      simp
  · rw [eB i, if_neg (by simp at hi; omega)]
    exact h.out i (by simp at hi; omega) hi2
  · simp only [List.mem_append, List.mem_singleton] at hq
    rcases hq with hq | rfl
    · exact h.valid q hq
    · exact hv
theorem HasLog.force {A : ADisk} {T : ATape} {m : Nat} (h : HasLog A T.recs) (hC : Calm A m) : HasLog (forceA A T) (forceT A T).recs ∧ Calm (forceA A T) (m + 1) ∧ forceE A T = 0 ∧ (forceT A T).recs = T.recs ∧ (forceT A T).forced = T.recs.length := by
  have e0 : forceE A T = 0 := by unfold forceE; split <;> first | exact hC.act | rfl
  have eT : forceT A T = { T with forced := T.recs.length, late := false } := by simp only [forceT, if_pos e0]
  have eB : ∀ j, blkAt (forceA A T) j = blkAt A j := by
    intro j
    unfold forceA
    split
    · unfold blkAt flushA
      rw [if_pos hC.act]
      simp [layAll]
    · rfl
  refine ⟨?_, ?_, e0, by rw [eT], by rw [eT]⟩
  · rw [eT]
    exact ⟨fun i hi => by rw [eB]; exact h.put i hi, fun i h1 h2 => by rw [eB]; exact h.out i h1 h2, h.valid, h.few⟩
  · unfold forceA
    split
    · exact hC.flush
    · exact hC.mono (by omega)

end Go.Proofs.YtdccbceaajnajaaGreat
